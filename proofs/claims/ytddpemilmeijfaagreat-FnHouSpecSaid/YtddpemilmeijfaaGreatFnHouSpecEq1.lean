/- The functions of the seat, evaluated: equations, checked by the kernel. Made by a program. -/
import Derived.Test.YtddpemilmeijfaaGreatFnHouSpecEq0
set_option linter.unusedVariables false
set_option maxRecDepth 100000
namespace Go.Proofs.YtddpemilmeijfaaGreat
open Go.Vm
noncomputable section
abbrev M_cu : Lm := [.imm S_TstTest]
abbrev R_cu : Lr := [(.imm, I)]
abbrev In_cu := Iq M_cu
abbrev Out_cu := Oq R_cu M_cu
abbrev C_cu := Cq 156 M_cu R_cu
section
variable (g_co : In_co -> Out_co) (g_cn : In_cn -> Out_cn) (g_cq : In_cq -> Out_cq) (p_cq : In_cq -> Bool) (g_ct : In_ct -> Out_ct) (p_ct : In_ct -> Bool)
abbrev X_cu : Ctx := ctx tys 45 (conOf [(157, ⟨M_co, R_co, fun _ => true, g_co⟩), (155, ⟨M_cn, R_cn, fun _ => true, g_cn⟩), (195, ⟨M_cq, R_cq, p_cq, g_cq⟩), (193, ⟨M_ct, R_ct, p_ct, g_ct⟩)]) (keepOf []) nF
abbrev E_cu := evFn (X_cu g_co g_cn g_cq p_cq g_ct p_ct) Tryz.f156 R_cu M_cu
variable {g_co g_cn g_cq p_cq g_ct p_ct}
theorem ev_cu (k : Nat) (x0 : Dm (.imm S_TstTest)) : E_cu g_co g_cn g_cq p_cq g_ct p_ct k (x0, ()) =
 (bif (decide (x0.2.2.2.1 = (0 : Int))) then (bif (bif (g_co (x0.1, (x0.2.2.1, ()))).1 then false else true) then (some ((1 : Int), ())) else (bif (decide (x0.2.2.2.1 = (0 : Int))) then (some ((3 : Int), ())) else (bif (decide ((List.length x0.2.2.2.2 : Int) < (g_cn (x0.2.2.2.1, ())).1)) then (some ((2 : Int), ())) else (bif (bif (decide (x0.2.2.2.1 = (3 : Int))) then false else true) then (bif (p_cq (x0, ())) then (bif (g_co (x0.1, ((g_cq (x0, ())).1, ()))).1 then (bif (p_ct (x0.2.2.2.2, ((x0, ()), ()))) then (bif (bif (g_ct (x0.2.2.2.2, ((x0, ()), ()))).1 then false else true) then (some ((3 : Int), ())) else (some ((4 : Int), ()))) else none) else (some ((4 : Int), ()))) else none) else (some ((4 : Int), ())))))) else (bif (decide (x0.2.2.2.1 = (0 : Int))) then (some ((3 : Int), ())) else (bif (decide ((List.length x0.2.2.2.2 : Int) < (g_cn (x0.2.2.2.1, ())).1)) then (some ((2 : Int), ())) else (bif (bif (decide (x0.2.2.2.1 = (3 : Int))) then false else true) then (bif (p_cq (x0, ())) then (bif (g_co (x0.1, ((g_cq (x0, ())).1, ()))).1 then (bif (p_ct (x0.2.2.2.2, ((x0, ()), ()))) then (bif (bif (g_ct (x0.2.2.2.2, ((x0, ()), ()))).1 then false else true) then (some ((3 : Int), ())) else (some ((4 : Int), ()))) else none) else (some ((4 : Int), ()))) else none) else (some ((4 : Int), ())))))) := by kernel_rfl
theorem S_cu (h_co : C_co (fun _ => true) g_co) (h_cn : C_cn (fun _ => true) g_cn) (h_cq : C_cq p_cq g_cq) (h_ct : C_ct p_ct g_ct) {pre fn} (hev : Hq (E_cu g_co g_cn g_cq p_cq g_ct p_ct) pre fn) : C_cu pre fn := sound tysOk mixed (fn := Tryz.f156) rfl rfl rfl (.cons h_co (.cons h_cn (.cons h_cq (.cons h_ct .nil)))) _ hev
end
abbrev M_cv : Lm := [.imm S_TstTest]
abbrev R_cv : Lr := [(.imm, .bool)]
abbrev In_cv := Iq M_cv
abbrev Out_cv := Oq R_cv M_cv
abbrev C_cv := Cq 88 M_cv R_cv
section
variable (g_cg : In_cg -> Out_cg) (g_ca : In_ca -> Out_ca) (g_cm : In_cm -> Out_cm) (p_cm : In_cm -> Bool) (g_iin : In_iin -> Out_iin) (g_cn : In_cn -> Out_cn) (g_cu : In_cu -> Out_cu) (p_cu : In_cu -> Bool) (g_co : In_co -> Out_co)
abbrev X_cv : Ctx := ctx tys 64 (conOf [(142, ⟨M_cg, R_cg, fun _ => true, g_cg⟩), (75, ⟨M_ca, R_ca, fun _ => true, g_ca⟩), (154, ⟨M_cm, R_cm, p_cm, g_cm⟩), (65, ⟨M_iin, R_iin, fun _ => true, g_iin⟩), (155, ⟨M_cn, R_cn, fun _ => true, g_cn⟩), (156, ⟨M_cu, R_cu, p_cu, g_cu⟩), (157, ⟨M_co, R_co, fun _ => true, g_co⟩)]) (keepOf []) nF
abbrev E_cv := evFn (X_cv g_cg g_ca g_cm p_cm g_iin g_cn g_cu p_cu g_co) Tryz.f88 R_cv M_cv
variable {g_cg g_ca g_cm p_cm g_iin g_cn g_cu p_cu g_co}
theorem ev_cv (k : Nat) (x0 : Dm (.imm S_TstTest)) : E_cv g_cg g_ca g_cm p_cm g_iin g_cn g_cu p_cu g_co k (x0, ()) =
 (bif (bif (g_cg (x0.1, ())).1 then false else true) then (some (false, ())) else (bif (bif (g_ca (x0.2.2.1, ())).1 then false else true) then (some (false, ())) else (bif (p_cm (x0.2.2.2.2, ())) then (bif (bif (g_cm (x0.2.2.2.2, ())).1 then false else true) then (some (false, ())) else (bif (bif (g_iin (x0.2.2.2.1, ((0 : Int), ((3 : Int), ())))).1 then false else true) then (some (false, ())) else (bif (decide ((g_cn (x0.2.2.2.1, ())).1 < (List.length x0.2.2.2.2 : Int))) then (some (false, ())) else (bif (decide (x0.2.1 = (0 : Int))) then (bif (Sh.beq S_DecDec x0.2.2.1 ((0 : Int), (0 : Int))) then (some ((decide (x0.2.2.2.1 = (0 : Int))), ())) else (some (false, ()))) else (bif (p_cu (x0, ())) then (bif (decide (x0.2.1 = (g_cu (x0, ())).1)) then (bif (decide (x0.2.2.2.1 = (0 : Int))) then (some (true, ())) else (some ((bif (g_co (x0.1, (x0.2.2.1, ()))).1 then false else true), ()))) else (some (false, ()))) else none))))) else none))) := by kernel_rfl
theorem S_cv (h_cg : C_cg (fun _ => true) g_cg) (h_ca : C_ca (fun _ => true) g_ca) (h_cm : C_cm p_cm g_cm) (h_iin : C_iin (fun _ => true) g_iin) (h_cn : C_cn (fun _ => true) g_cn) (h_cu : C_cu p_cu g_cu) (h_co : C_co (fun _ => true) g_co) {pre fn} (hev : Hq (E_cv g_cg g_ca g_cm p_cm g_iin g_cn g_cu p_cu g_co) pre fn) : C_cv pre fn := sound tysOk mixed (fn := Tryz.f88) rfl rfl rfl (.cons h_cg (.cons h_ca (.cons h_cm (.cons h_iin (.cons h_cn (.cons h_cu (.cons h_co .nil))))))) _ hev
end
abbrev M_cw : Lm := [.imm I]
abbrev R_cw : Lr := [(.imm, .bool)]
abbrev In_cw := Iq M_cw
abbrev Out_cw := Oq R_cw M_cw
abbrev C_cw := Cq 77 M_cw R_cw
section
variable (g_iin : In_iin -> Out_iin)
abbrev X_cw : Ctx := ctx tys 5 (conOf [(65, ⟨M_iin, R_iin, fun _ => true, g_iin⟩)]) (keepOf []) nF
abbrev E_cw := evFn (X_cw g_iin) Tryz.f77 R_cw M_cw
variable {g_iin}
theorem ev_cw (k : Nat) (x0 : Dm (.imm I)) : E_cw g_iin k (x0, ()) =
 (some ((g_iin (x0, ((1 : Int), ((5 : Int), ())))).1, ())) := by kernel_rfl
theorem S_cw (h_iin : C_iin (fun _ => true) g_iin) {pre fn} (hev : Hq (E_cw g_iin) pre fn) : C_cw pre fn := sound tysOk mixed (fn := Tryz.f77) rfl rfl rfl (.cons h_iin .nil) _ hev
end
abbrev M_cx : Lm := [.imm I]
abbrev R_cx : Lr := [(.imm, .bool)]
abbrev In_cx := Iq M_cx
abbrev Out_cx := Oq R_cx M_cx
abbrev C_cx := Cq 85 M_cx R_cx
abbrev X_cx : Ctx := ctx tys 9 (conOf []) (keepOf []) nF
abbrev E_cx := evFn X_cx Tryz.f85 R_cx M_cx
theorem ev_cx (k : Nat) (x0 : Dm (.imm I)) : E_cx k (x0, ()) =
 (bif (decide (x0 = (2 : Int))) then (some (true, ())) else (some ((decide (x0 = (3 : Int))), ()))) := by kernel_rfl
theorem S_cx  {pre fn} (hev : Hq E_cx pre fn) : C_cx pre fn := sound tysOk mixed (fn := Tryz.f85) rfl rfl rfl ConsOk.nil _ hev
abbrev M_cy : Lm := [.imm S_BatSig]
abbrev R_cy : Lr := [(.imm, .bool)]
abbrev In_cy := Iq M_cy
abbrev Out_cy := Oq R_cy M_cy
abbrev C_cy := Cq 90 M_cy R_cy
section
variable (g_cw : In_cw -> Out_cw) (g_cx : In_cx -> Out_cx) (g_iin : In_iin -> Out_iin)
abbrev X_cy : Ctx := ctx tys 16 (conOf [(77, ⟨M_cw, R_cw, fun _ => true, g_cw⟩), (85, ⟨M_cx, R_cx, fun _ => true, g_cx⟩), (65, ⟨M_iin, R_iin, fun _ => true, g_iin⟩)]) (keepOf []) nF
abbrev E_cy := evFn (X_cy g_cw g_cx g_iin) Tryz.f90 R_cy M_cy
variable {g_cw g_cx g_iin}
theorem ev_cy (k : Nat) (x0 : Dm (.imm S_BatSig)) : E_cy g_cw g_cx g_iin k (x0, ()) =
 (bif (g_cw (x0.1, ())).1 then (bif (g_cx (x0.2.1, ())).1 then (some ((g_iin (x0.2.2, ((0 : Int), ((999982 : Int), ())))).1, ())) else (some (false, ()))) else (some (false, ()))) := by kernel_rfl
theorem S_cy (h_cw : C_cw (fun _ => true) g_cw) (h_cx : C_cx (fun _ => true) g_cx) (h_iin : C_iin (fun _ => true) g_iin) {pre fn} (hev : Hq (E_cy g_cw g_cx g_iin) pre fn) : C_cy pre fn := sound tysOk mixed (fn := Tryz.f90) rfl rfl rfl (.cons h_cw (.cons h_cx (.cons h_iin .nil))) _ hev
end
abbrev M_cz : Lm := [.imm S_BatSig]
abbrev R_cz : Lr := [(.imm, .bool)]
abbrev In_cz := Iq M_cz
abbrev Out_cz := Oq R_cz M_cz
abbrev C_cz := Cq 89 M_cz R_cz
section
variable (g_cy : In_cy -> Out_cy)
abbrev X_cz : Ctx := ctx tys 6 (conOf [(90, ⟨M_cy, R_cy, fun _ => true, g_cy⟩)]) (keepOf []) nF
abbrev E_cz := evFn (X_cz g_cy) Tryz.f89 R_cz M_cz
variable {g_cy}
theorem ev_cz (k : Nat) (x0 : Dm (.imm S_BatSig)) : E_cz g_cy k (x0, ()) =
 (some ((bif (g_cy (x0, ())).1 then false else true), ())) := by kernel_rfl
theorem S_cz (h_cy : C_cy (fun _ => true) g_cy) {pre fn} (hev : Hq (E_cz g_cy) pre fn) : C_cz pre fn := sound tysOk mixed (fn := Tryz.f89) rfl rfl rfl (.cons h_cy .nil) _ hev
end
abbrev M_d0 : Lm := [.imm L_BatSig, .clo 89 []]
abbrev R_d0 : Lr := [(.imm, I)]
abbrev In_d0 := Iq M_d0
abbrev Out_d0 := Oq R_d0 M_d0
abbrev C_d0 := Cq 158 M_d0 R_d0
section
variable (g_cz : In_cz -> Out_cz) (p_cz : In_cz -> Bool)
abbrev X_d0 : Ctx := ctx tys 19 (conOf [(89, ⟨M_cz, R_cz, p_cz, g_cz⟩)]) (keepOf [(pt1, (⟨[(0, .asis), (1, .asis), (7, .asis), (8, .asis)], [], []⟩ : Keep))]) nF
abbrev E_d0 := evFn (X_d0 g_cz p_cz) Tryz.f158 R_d0 M_d0
def h0_d0 (x0 : Dm (.imm L_BatSig)) (x1 : Dm (.clo 89 [])) (h0 : Dn I) (h1 : Dn I) : St := mkS [(0, (AV.val L_BatSig x0)), (1, (AV.fn 89 [])), (7, (AV.val I h0)), (8, (AV.val I h1))] []
def r_d0 := rounds (X_d0 g_cz p_cz) Tryz.f158 R_d0 M_d0
variable {g_cz p_cz}
theorem ev_d0 (k : Nat) (x0 : Dm (.imm L_BatSig)) (x1 : Dm (.clo 89 [])) : E_d0 g_cz p_cz k (x0, x1, ()) =
 (r_d0 g_cz p_cz (x0, x1, ()) k pt1 (h0_d0 x0 x1 (List.length x0 : Int) (0 : Int))) := by kernel_rfl
theorem rd0_d0 (k : Nat) (x0 : Dm (.imm L_BatSig)) (x1 : Dm (.clo 89 [])) (h0 : Dn I) (h1 : Dn I) : r_d0 g_cz p_cz (x0, x1, ()) (k + 1) pt1 (h0_d0 x0 x1 h0 h1) =
 (bif (decide (h1 < h0)) then (bif (bif (decide ((0 : Int) <= h1)) then (decide (h1 < (List.length x0 : Int))) else false) then (cl (p_cz ((rdL (e := S_BatSig) x0 h1), ())) (g_cz ((rdL (e := S_BatSig) x0 h1), ())) fun y0 => (bif y0.1 then (some (h1, ())) else (r_d0 g_cz p_cz (x0, x1, ()) k pt1 (h0_d0 x0 x1 h0 (w64 (h1 + (1 : Int))))))) else none) else (some ((-1 : Int), ()))) := by kernel_rfl
theorem S_d0 (h_cz : C_cz p_cz g_cz) {pre fn} (hev : Hq (E_d0 g_cz p_cz) pre fn) : C_d0 pre fn := sound tysOk mixed (fn := Tryz.f158) rfl rfl rfl (.cons h_cz .nil) _ hev
end
abbrev M_d1 : Lm := [.imm L_BatSig, .clo 89 []]
abbrev R_d1 : Lr := [(.imm, .bool)]
abbrev In_d1 := Iq M_d1
abbrev Out_d1 := Oq R_d1 M_d1
abbrev C_d1 := Cq 91 M_d1 R_d1
section
variable (g_d0 : In_d0 -> Out_d0) (p_d0 : In_d0 -> Bool)
abbrev X_d1 : Ctx := ctx tys 9 (conOf [(158, ⟨M_d0, R_d0, p_d0, g_d0⟩)]) (keepOf []) nF
abbrev E_d1 := evFn (X_d1 g_d0 p_d0) Tryz.f91 R_d1 M_d1
variable {g_d0 p_d0}
theorem ev_d1 (k : Nat) (x0 : Dm (.imm L_BatSig)) (x1 : Dm (.clo 89 [])) : E_d1 g_d0 p_d0 k (x0, x1, ()) =
 (cl (p_d0 (x0, ((), ()))) (g_d0 (x0, ((), ()))) fun y0 => (some ((decide ((0 : Int) <= y0.1)), ()))) := by kernel_rfl
theorem S_d1 (h_d0 : C_d0 p_d0 g_d0) {pre fn} (hev : Hq (E_d1 g_d0 p_d0) pre fn) : C_d1 pre fn := sound tysOk mixed (fn := Tryz.f91) rfl rfl rfl (.cons h_d0 .nil) _ hev
end
abbrev M_d2 : Lm := [.imm S_TstTest]
abbrev R_d2 : Lr := [(.imm, .bool)]
abbrev In_d2 := Iq M_d2
abbrev Out_d2 := Oq R_d2 M_d2
abbrev C_d2 := Cq 144 M_d2 R_d2
abbrev X_d2 : Ctx := ctx tys 6 (conOf []) (keepOf []) nF
abbrev E_d2 := evFn X_d2 Tryz.f144 R_d2 M_d2
theorem ev_d2 (k : Nat) (x0 : Dm (.imm S_TstTest)) : E_d2 k (x0, ()) =
 (some ((bif (decide (x0.2.1 = (3 : Int))) then false else true), ())) := by kernel_rfl
theorem S_d2  {pre fn} (hev : Hq E_d2 pre fn) : C_d2 pre fn := sound tysOk mixed (fn := Tryz.f144) rfl rfl rfl ConsOk.nil _ hev
abbrev M_d3 : Lm := [.imm L_TstTest, .clo 144 []]
abbrev R_d3 : Lr := [(.imm, I)]
abbrev In_d3 := Iq M_d3
abbrev Out_d3 := Oq R_d3 M_d3
abbrev C_d3 := Cq 96 M_d3 R_d3
section
variable (g_d2 : In_d2 -> Out_d2)
abbrev X_d3 : Ctx := ctx tys 19 (conOf [(144, ⟨M_d2, R_d2, fun _ => true, g_d2⟩)]) (keepOf [(pt1, (⟨[(0, .asis), (1, .asis), (7, .asis), (8, .asis)], [], []⟩ : Keep))]) nF
abbrev E_d3 := evFn (X_d3 g_d2) Tryz.f96 R_d3 M_d3
def h0_d3 (x0 : Dm (.imm L_TstTest)) (x1 : Dm (.clo 144 [])) (h0 : Dn I) (h1 : Dn I) : St := mkS [(0, (AV.val L_TstTest x0)), (1, (AV.fn 144 [])), (7, (AV.val I h0)), (8, (AV.val I h1))] []
def r_d3 := rounds (X_d3 g_d2) Tryz.f96 R_d3 M_d3
variable {g_d2}
theorem ev_d3 (k : Nat) (x0 : Dm (.imm L_TstTest)) (x1 : Dm (.clo 144 [])) : E_d3 g_d2 k (x0, x1, ()) =
 (r_d3 g_d2 (x0, x1, ()) k pt1 (h0_d3 x0 x1 (List.length x0 : Int) (0 : Int))) := by kernel_rfl
theorem rd0_d3 (k : Nat) (x0 : Dm (.imm L_TstTest)) (x1 : Dm (.clo 144 [])) (h0 : Dn I) (h1 : Dn I) : r_d3 g_d2 (x0, x1, ()) (k + 1) pt1 (h0_d3 x0 x1 h0 h1) =
 (bif (decide (h1 < h0)) then (bif (bif (decide ((0 : Int) <= h1)) then (decide (h1 < (List.length x0 : Int))) else false) then (bif (g_d2 ((rdL (e := S_TstTest) x0 h1), ())).1 then (some (h1, ())) else (r_d3 g_d2 (x0, x1, ()) k pt1 (h0_d3 x0 x1 h0 (w64 (h1 + (1 : Int)))))) else none) else (some ((-1 : Int), ()))) := by kernel_rfl
theorem S_d3 (h_d2 : C_d2 (fun _ => true) g_d2) {pre fn} (hev : Hq (E_d3 g_d2) pre fn) : C_d3 pre fn := sound tysOk mixed (fn := Tryz.f96) rfl rfl rfl (.cons h_d2 .nil) _ hev
end
abbrev M_d4 : Lm := [.imm L_TstTest, .clo 144 []]
abbrev R_d4 : Lr := [(.imm, .bool)]
abbrev In_d4 := Iq M_d4
abbrev Out_d4 := Oq R_d4 M_d4
abbrev C_d4 := Cq 145 M_d4 R_d4
section
variable (g_d3 : In_d3 -> Out_d3) (p_d3 : In_d3 -> Bool)
abbrev X_d4 : Ctx := ctx tys 9 (conOf [(96, ⟨M_d3, R_d3, p_d3, g_d3⟩)]) (keepOf []) nF
abbrev E_d4 := evFn (X_d4 g_d3 p_d3) Tryz.f145 R_d4 M_d4
variable {g_d3 p_d3}
theorem ev_d4 (k : Nat) (x0 : Dm (.imm L_TstTest)) (x1 : Dm (.clo 144 [])) : E_d4 g_d3 p_d3 k (x0, x1, ()) =
 (cl (p_d3 (x0, ((), ()))) (g_d3 (x0, ((), ()))) fun y0 => (some ((decide ((0 : Int) <= y0.1)), ()))) := by kernel_rfl
theorem S_d4 (h_d3 : C_d3 p_d3 g_d3) {pre fn} (hev : Hq (E_d4 g_d3 p_d3) pre fn) : C_d4 pre fn := sound tysOk mixed (fn := Tryz.f145) rfl rfl rfl (.cons h_d3 .nil) _ hev
end
abbrev M_d5 : Lm := [.imm L_bool, .imm .bool]
abbrev R_d5 : Lr := [(.imm, I)]
abbrev In_d5 := Iq M_d5
abbrev Out_d5 := Oq R_d5 M_d5
abbrev C_d5 := Cq 189 M_d5 R_d5
abbrev X_d5 : Ctx := ctx tys 19 (conOf []) (keepOf [(pt1, (⟨[(0, .asis), (1, .asis), (7, .asis), (8, .asis)], [], []⟩ : Keep))]) nF
abbrev E_d5 := evFn X_d5 Tryz.f189 R_d5 M_d5
def h0_d5 (x0 : Dm (.imm L_bool)) (x1 : Dm (.imm .bool)) (h0 : Dn I) (h1 : Dn I) : St := mkS [(0, (AV.val L_bool x0)), (1, (AV.val Sh.bool x1)), (7, (AV.val I h0)), (8, (AV.val I h1))] []
def r_d5 := rounds X_d5 Tryz.f189 R_d5 M_d5
theorem ev_d5 (k : Nat) (x0 : Dm (.imm L_bool)) (x1 : Dm (.imm .bool)) : E_d5 k (x0, x1, ()) =
 (r_d5  (x0, x1, ()) k pt1 (h0_d5 x0 x1 (List.length x0 : Int) (0 : Int))) := by kernel_rfl
theorem rd0_d5 (k : Nat) (x0 : Dm (.imm L_bool)) (x1 : Dm (.imm .bool)) (h0 : Dn I) (h1 : Dn I) : r_d5  (x0, x1, ()) (k + 1) pt1 (h0_d5 x0 x1 h0 h1) =
 (bif (decide (h1 < h0)) then (bif (bif (decide ((0 : Int) <= h1)) then (decide (h1 < (List.length x0 : Int))) else false) then (bif (x1 == (rdL (e := Sh.bool) x0 h1)) then (some (h1, ())) else (r_d5  (x0, x1, ()) k pt1 (h0_d5 x0 x1 h0 (w64 (h1 + (1 : Int)))))) else none) else (some ((-1 : Int), ()))) := by kernel_rfl
theorem S_d5  {pre fn} (hev : Hq E_d5 pre fn) : C_d5 pre fn := sound tysOk mixed (fn := Tryz.f189) rfl rfl rfl ConsOk.nil _ hev
abbrev M_d6 : Lm := [.imm L_bool, .imm .bool]
abbrev R_d6 : Lr := [(.imm, .bool)]
abbrev In_d6 := Iq M_d6
abbrev Out_d6 := Oq R_d6 M_d6
abbrev C_d6 := Cq 146 M_d6 R_d6
section
variable (g_d5 : In_d5 -> Out_d5) (p_d5 : In_d5 -> Bool)
abbrev X_d6 : Ctx := ctx tys 9 (conOf [(189, ⟨M_d5, R_d5, p_d5, g_d5⟩)]) (keepOf []) nF
abbrev E_d6 := evFn (X_d6 g_d5 p_d5) Tryz.f146 R_d6 M_d6
variable {g_d5 p_d5}
theorem ev_d6 (k : Nat) (x0 : Dm (.imm L_bool)) (x1 : Dm (.imm .bool)) : E_d6 g_d5 p_d5 k (x0, x1, ()) =
 (cl (p_d5 (x0, (x1, ()))) (g_d5 (x0, (x1, ()))) fun y0 => (some ((decide ((0 : Int) <= y0.1)), ()))) := by kernel_rfl
theorem S_d6 (h_d5 : C_d5 p_d5 g_d5) {pre fn} (hev : Hq (E_d6 g_d5 p_d5) pre fn) : C_d6 pre fn := sound tysOk mixed (fn := Tryz.f146) rfl rfl rfl (.cons h_d5 .nil) _ hev
end
abbrev M_d7 : Lm := [.imm I, .imm L_int]
abbrev R_d7 : Lr := [(.imm, I)]
abbrev In_d7 := Iq M_d7
abbrev Out_d7 := Oq R_d7 M_d7
abbrev C_d7 := Cq 82 M_d7 R_d7
abbrev X_d7 : Ctx := ctx tys 23 (conOf []) (keepOf [(pt1, (⟨[(0, .asis), (7, .asis), (8, .asis), (9, .asis)], [], []⟩ : Keep))]) nF
abbrev E_d7 := evFn X_d7 Tryz.f82 R_d7 M_d7
def h0_d7 (x0 : Dm (.imm I)) (x1 : Dm (.imm L_int)) (h0 : Dn I) (h1 : Dn I) (h2 : Dn I) : St := mkS [(0, (AV.val I h0)), (7, (AV.val L_int x1)), (8, (AV.val I h1)), (9, (AV.val I h2))] []
def r_d7 := rounds X_d7 Tryz.f82 R_d7 M_d7
theorem ev_d7 (k : Nat) (x0 : Dm (.imm I)) (x1 : Dm (.imm L_int)) : E_d7 k (x0, x1, ()) =
 (r_d7  (x0, x1, ()) k pt1 (h0_d7 x0 x1 x0 (List.length x1 : Int) (0 : Int))) := by kernel_rfl
theorem rd0_d7 (k : Nat) (x0 : Dm (.imm I)) (x1 : Dm (.imm L_int)) (h0 : Dn I) (h1 : Dn I) (h2 : Dn I) : r_d7  (x0, x1, ()) (k + 1) pt1 (h0_d7 x0 x1 h0 h1 h2) =
 (bif (decide (h2 < h1)) then (bif (bif (decide ((0 : Int) <= h2)) then (decide (h2 < (List.length x1 : Int))) else false) then (bif (bif (decide ((999983 : Int) = (0 : Int))) then false else true) then (bif (bif (decide ((999983 : Int) = (0 : Int))) then false else true) then (r_d7  (x0, x1, ()) k pt1 (h0_d7 x0 x1 (Int.tmod (w64 ((w64 ((w64 ((w64 (h0 * (8191 : Int))) + (Int.tmod (rdL (e := I) x1 h2) (999983 : Int)))) + (999983 : Int))) + (7 : Int))) (999983 : Int)) h1 (w64 (h2 + (1 : Int))))) else none) else none) else none) else (some (h0, ()))) := by kernel_rfl
theorem S_d7  {pre fn} (hev : Hq E_d7 pre fn) : C_d7 pre fn := sound tysOk mixed (fn := Tryz.f82) rfl rfl rfl ConsOk.nil _ hev
abbrev M_d8 : Lm := [.imm S_BatBatch]
abbrev R_d8 : Lr := [(.imm, I)]
abbrev In_d8 := Iq M_d8
abbrev Out_d8 := Oq R_d8 M_d8
abbrev C_d8 := Cq 29 M_d8 R_d8
section
variable (g_d7 : In_d7 -> Out_d7) (p_d7 : In_d7 -> Bool)
abbrev X_d8 : Ctx := ctx tys 69 (conOf [(82, ⟨M_d7, R_d7, p_d7, g_d7⟩)]) (keepOf [(pt2, (⟨[(3, .asis), (51, .asis), (52, .asis), (53, .asis)], [], []⟩ : Keep)), (pt7, (⟨[(1, .asis), (3, .asis), (15, .asis), (16, .asis), (17, .asis), (35, .asis), (36, .asis), (37, .asis)], [(1, .asis)], []⟩ : Keep)), (pt0, (⟨[(1, .asis), (3, .asis), (15, .asis), (16, .asis), (17, .asis)], [(1, .asis)], []⟩ : Keep))]) nF
abbrev E_d8 := evFn (X_d8 g_d7 p_d7) Tryz.f29 R_d8 M_d8
def h0_d8 (x0 : Dm (.imm S_BatBatch)) (h0 : Dn I) (h1 : Dn I) (h2 : Dn I) : St := mkS [(1, (AV.ptr 1 none [])), (3, (AV.val I h0)), (15, (AV.val L_TstTest x0.2.2.1)), (16, (AV.val I h1)), (17, (AV.val I h2))] [(1, (Ob.box S_BatBatch (AV.val S_BatBatch x0)))]
def h1_d8 (x0 : Dm (.imm S_BatBatch)) (h0 : Dn I) (h1 : Dn I) (h2 : Dn I) (h3 : Dn L_DecDec) (h4 : Dn I) (h5 : Dn I) : St := mkS [(1, (AV.ptr 1 none [])), (3, (AV.val I h0)), (15, (AV.val L_TstTest x0.2.2.1)), (16, (AV.val I h1)), (17, (AV.val I h2)), (35, (AV.val L_DecDec h3)), (36, (AV.val I h4)), (37, (AV.val I h5))] [(1, (Ob.box S_BatBatch (AV.val S_BatBatch x0)))]
def h2_d8 (x0 : Dm (.imm S_BatBatch)) (h0 : Dn I) (h1 : Dn I) (h2 : Dn I) : St := mkS [(3, (AV.val I h0)), (51, (AV.val L_bool x0.2.2.2.2.2)), (52, (AV.val I h1)), (53, (AV.val I h2))] []
def r_d8 := rounds (X_d8 g_d7 p_d7) Tryz.f29 R_d8 M_d8
variable {g_d7 p_d7}
theorem ev_d8 (k : Nat) (x0 : Dm (.imm S_BatBatch)) : E_d8 g_d7 p_d7 k (x0, ()) =
 (cl (p_d7 ((1 : Int), ([x0.1], ()))) (g_d7 ((1 : Int), ([x0.1], ()))) fun y0 => (r_d8 g_d7 p_d7 (x0, ()) k pt0 (h0_d8 x0 (y0.1) (List.length x0.2.2.1 : Int) (0 : Int)))) := by kernel_rfl
theorem rd0_d8 (k : Nat) (x0 : Dm (.imm S_BatBatch)) (h0 : Dn I) (h1 : Dn I) (h2 : Dn I) : r_d8 g_d7 p_d7 (x0, ()) (k + 1) pt0 (h0_d8 x0 h0 h1 h2) =
 (lt (rdL (e := S_TstTest) x0.2.2.1 h2) fun s0 => (bif (decide (h2 < h1)) then (bif (bif (decide ((0 : Int) <= h2)) then (decide (h2 < (List.length x0.2.2.1 : Int))) else false) then (cl (p_d7 (h0, ([(s0.2.1), (s0.2.2.1.1), (s0.2.2.1.2), (s0.2.2.2.1)], ()))) (g_d7 (h0, ([(s0.2.1), (s0.2.2.1.1), (s0.2.2.1.2), (s0.2.2.2.1)], ()))) fun y0 => (r_d8 g_d7 p_d7 (x0, ()) k pt7 (h1_d8 x0 (y0.1) h1 h2 (s0.2.2.2.2) (List.length s0.2.2.2.2 : Int) (0 : Int)))) else none) else (r_d8 g_d7 p_d7 (x0, ()) k pt2 (h2_d8 x0 h0 (List.length x0.2.2.2.2.2 : Int) (0 : Int))))) := by kernel_rfl
theorem rd1_d8 (k : Nat) (x0 : Dm (.imm S_BatBatch)) (h0 : Dn I) (h1 : Dn I) (h2 : Dn I) (h3 : Dn L_DecDec) (h4 : Dn I) (h5 : Dn I) : r_d8 g_d7 p_d7 (x0, ()) (k + 1) pt7 (h1_d8 x0 h0 h1 h2 h3 h4 h5) =
 (bif (decide (h5 < h4)) then (bif (bif (decide ((0 : Int) <= h5)) then (decide (h5 < (List.length h3 : Int))) else false) then (cl (p_d7 (h0, ([((rdL (e := S_DecDec) h3 h5).1), ((rdL (e := S_DecDec) h3 h5).2)], ()))) (g_d7 (h0, ([((rdL (e := S_DecDec) h3 h5).1), ((rdL (e := S_DecDec) h3 h5).2)], ()))) fun y0 => (r_d8 g_d7 p_d7 (x0, ()) k pt7 (h1_d8 x0 (y0.1) h1 h2 h3 h4 (w64 (h5 + (1 : Int)))))) else none) else (r_d8 g_d7 p_d7 (x0, ()) k pt0 (h0_d8 x0 h0 h1 (w64 (h2 + (1 : Int)))))) := by kernel_rfl
theorem rd2_d8 (k : Nat) (x0 : Dm (.imm S_BatBatch)) (h0 : Dn I) (h1 : Dn I) (h2 : Dn I) : r_d8 g_d7 p_d7 (x0, ()) (k + 1) pt2 (h2_d8 x0 h0 h1 h2) =
 (bif (decide (h2 < h1)) then (bif (bif (decide ((0 : Int) <= h2)) then (decide (h2 < (List.length x0.2.2.2.2.2 : Int))) else false) then (cl (p_d7 (h0, ([(w64 (h2 + (1 : Int)))], ()))) (g_d7 (h0, ([(w64 (h2 + (1 : Int)))], ()))) fun y0 => (bif (rdL (e := Sh.bool) x0.2.2.2.2.2 h2) then (cl (p_d7 (y0.1, ([(77 : Int)], ()))) (g_d7 (y0.1, ([(77 : Int)], ()))) fun y1 => (r_d8 g_d7 p_d7 (x0, ()) k pt2 (h2_d8 x0 (y1.1) h1 (w64 (h2 + (1 : Int)))))) else (r_d8 g_d7 p_d7 (x0, ()) k pt2 (h2_d8 x0 (y0.1) h1 (w64 (h2 + (1 : Int))))))) else none) else (some (h0, ()))) := by kernel_rfl
theorem S_d8 (h_d7 : C_d7 p_d7 g_d7) {pre fn} (hev : Hq (E_d8 g_d7 p_d7) pre fn) : C_d8 pre fn := sound tysOk mixed (fn := Tryz.f29) rfl rfl rfl (.cons h_d7 .nil) _ hev
end
abbrev M_d9 : Lm := [.imm S_BatBatch, .imm I, .imm I]
abbrev R_d9 : Lr := [(.imm, I)]
abbrev In_d9 := Iq M_d9
abbrev Out_d9 := Oq R_d9 M_d9
abbrev C_d9 := Cq 33 M_d9 R_d9
section
variable (g_d8 : In_d8 -> Out_d8) (p_d8 : In_d8 -> Bool)
abbrev X_d9 : Ctx := ctx tys 38 (conOf [(29, ⟨M_d8, R_d8, p_d8, g_d8⟩)]) (keepOf [(pt0, (⟨[(1, .asis), (2, .asis), (7, .asis), (13, .asis), (14, .asis), (15, .asis)], [], []⟩ : Keep))]) nF
abbrev E_d9 := evFn (X_d9 g_d8 p_d8) Tryz.f33 R_d9 M_d9
def h0_d9 (x0 : Dm (.imm S_BatBatch)) (x1 : Dm (.imm I)) (x2 : Dm (.imm I)) (h0 : Dn I) (h1 : Dn I) (h2 : Dn I) : St := mkS [(1, (AV.val I x1)), (2, (AV.val I x2)), (7, (AV.val I h0)), (13, (AV.val L_BatSig x0.2.2.2.2.1)), (14, (AV.val I h1)), (15, (AV.val I h2))] []
def r_d9 := rounds (X_d9 g_d8 p_d8) Tryz.f33 R_d9 M_d9
variable {g_d8 p_d8}
theorem ev_d9 (k : Nat) (x0 : Dm (.imm S_BatBatch)) (x1 : Dm (.imm I)) (x2 : Dm (.imm I)) : E_d9 g_d8 p_d8 k (x0, x1, x2, ()) =
 (cl (p_d8 (x0, ())) (g_d8 (x0, ())) fun y0 => (r_d9 g_d8 p_d8 (x0, x1, x2, ()) k pt0 (h0_d9 x0 x1 x2 (y0.1) (List.length x0.2.2.2.2.1 : Int) (0 : Int)))) := by kernel_rfl
theorem rd0_d9 (k : Nat) (x0 : Dm (.imm S_BatBatch)) (x1 : Dm (.imm I)) (x2 : Dm (.imm I)) (h0 : Dn I) (h1 : Dn I) (h2 : Dn I) : r_d9 g_d8 p_d8 (x0, x1, x2, ()) (k + 1) pt0 (h0_d9 x0 x1 x2 h0 h1 h2) =
 (bif (decide (h2 < h1)) then (bif (bif (decide ((0 : Int) <= h2)) then (decide (h2 < (List.length x0.2.2.2.2.1 : Int))) else false) then (bif (decide ((rdL (e := S_BatSig) x0.2.2.2.2.1 h2).2.1 = x1)) then (bif (decide ((rdL (e := S_BatSig) x0.2.2.2.2.1 h2).2.2 = h0)) then (bif (bif (decide ((rdL (e := S_BatSig) x0.2.2.2.2.1 h2).1 = x2)) then false else true) then (some ((rdL (e := S_BatSig) x0.2.2.2.2.1 h2).1, ())) else (r_d9 g_d8 p_d8 (x0, x1, x2, ()) k pt0 (h0_d9 x0 x1 x2 h0 h1 (w64 (h2 + (1 : Int)))))) else (r_d9 g_d8 p_d8 (x0, x1, x2, ()) k pt0 (h0_d9 x0 x1 x2 h0 h1 (w64 (h2 + (1 : Int)))))) else (r_d9 g_d8 p_d8 (x0, x1, x2, ()) k pt0 (h0_d9 x0 x1 x2 h0 h1 (w64 (h2 + (1 : Int)))))) else none) else (some ((0 : Int), ()))) := by kernel_rfl
theorem S_d9 (h_d8 : C_d8 p_d8 g_d8) {pre fn} (hev : Hq (E_d9 g_d8 p_d8) pre fn) : C_d9 pre fn := sound tysOk mixed (fn := Tryz.f33) rfl rfl rfl (.cons h_d8 .nil) _ hev
end
abbrev M_da : Lm := [.imm S_BatSig, .pR I, .pR S_BatBatch]
abbrev R_da : Lr := [(.imm, .bool)]
abbrev In_da := Iq M_da
abbrev Out_da := Oq R_da M_da
abbrev C_da := Cq 147 M_da R_da
section
variable (g_d9 : In_d9 -> Out_d9) (p_d9 : In_d9 -> Bool)
abbrev X_da : Ctx := ctx tys 21 (conOf [(33, ⟨M_d9, R_d9, p_d9, g_d9⟩)]) (keepOf []) nF
abbrev E_da := evFn (X_da g_d9 p_d9) Tryz.f147 R_da M_da
variable {g_d9 p_d9}
theorem ev_da (k : Nat) (x0 : Dm (.imm S_BatSig)) (x1 : Dm (.pR I)) (x2 : Dm (.pR S_BatBatch)) : E_da g_d9 p_d9 k (x0, x1, x2, ()) =
 (bif (decide (x0.2.1 = (2 : Int))) then (bif (decide (x0.2.2 = x1)) then (cl (p_d9 (x2, ((3 : Int), (x0.1, ())))) (g_d9 (x2, ((3 : Int), (x0.1, ())))) fun y0 => (some ((decide ((0 : Int) < y0.1)), ()))) else (some (false, ()))) else (some (false, ()))) := by kernel_rfl
theorem S_da (h_d9 : C_d9 p_d9 g_d9) {pre fn} (hev : Hq (E_da g_d9 p_d9) pre fn) : C_da pre fn := sound tysOk mixed (fn := Tryz.f147) rfl rfl rfl (.cons h_d9 .nil) _ hev
end
abbrev M_db : Lm := [.imm L_BatSig, .clo 147 [I, S_BatBatch]]
abbrev R_db : Lr := [(.imm, I)]
abbrev In_db := Iq M_db
abbrev Out_db := Oq R_db M_db
abbrev C_db := Cq 158 M_db R_db
section
variable (g_da : In_da -> Out_da) (p_da : In_da -> Bool)
abbrev X_db : Ctx := ctx tys 19 (conOf [(147, ⟨M_da, R_da, p_da, g_da⟩)]) (keepOf [(pt1, (⟨[(0, .asis), (1, .asis), (7, .asis), (8, .asis)], [(1000005000, .asis), (1000005001, .asis)], []⟩ : Keep))]) nF
abbrev E_db := evFn (X_db g_da p_da) Tryz.f158 R_db M_db
def h0_db (x0 : Dm (.imm L_BatSig)) (x1 : Dm (.clo 147 [I, S_BatBatch])) (h0 : Dn I) (h1 : Dn I) : St := mkS [(0, (AV.val L_BatSig x0)), (1, (AV.fn 147 [1000005000, 1000005001])), (7, (AV.val I h0)), (8, (AV.val I h1))] [(1000005000, (Ob.cbox I x1.1)), (1000005001, (Ob.cbox S_BatBatch x1.2.1))]
def r_db := rounds (X_db g_da p_da) Tryz.f158 R_db M_db
variable {g_da p_da}
theorem ev_db (k : Nat) (x0 : Dm (.imm L_BatSig)) (x1 : Dm (.clo 147 [I, S_BatBatch])) : E_db g_da p_da k (x0, x1, ()) =
 (r_db g_da p_da (x0, x1, ()) k pt1 (h0_db x0 x1 (List.length x0 : Int) (0 : Int))) := by kernel_rfl
theorem rd0_db (k : Nat) (x0 : Dm (.imm L_BatSig)) (x1 : Dm (.clo 147 [I, S_BatBatch])) (h0 : Dn I) (h1 : Dn I) : r_db g_da p_da (x0, x1, ()) (k + 1) pt1 (h0_db x0 x1 h0 h1) =
 (bif (decide (h1 < h0)) then (bif (bif (decide ((0 : Int) <= h1)) then (decide (h1 < (List.length x0 : Int))) else false) then (cl (p_da ((rdL (e := S_BatSig) x0 h1), (x1.1, (x1.2.1, ())))) (g_da ((rdL (e := S_BatSig) x0 h1), (x1.1, (x1.2.1, ())))) fun y0 => (bif y0.1 then (some (h1, ())) else (r_db g_da p_da (x0, x1, ()) k pt1 (h0_db x0 x1 h0 (w64 (h1 + (1 : Int))))))) else none) else (some ((-1 : Int), ()))) := by kernel_rfl
theorem S_db (h_da : C_da p_da g_da) {pre fn} (hev : Hq (E_db g_da p_da) pre fn) : C_db pre fn := sound tysOk mixed (fn := Tryz.f158) rfl rfl rfl (.cons h_da .nil) _ hev
end
abbrev M_dc : Lm := [.imm L_BatSig, .clo 147 [I, S_BatBatch]]
abbrev R_dc : Lr := [(.imm, .bool)]
abbrev In_dc := Iq M_dc
abbrev Out_dc := Oq R_dc M_dc
abbrev C_dc := Cq 91 M_dc R_dc
section
variable (g_db : In_db -> Out_db) (p_db : In_db -> Bool)
abbrev X_dc : Ctx := ctx tys 9 (conOf [(158, ⟨M_db, R_db, p_db, g_db⟩)]) (keepOf []) nF
abbrev E_dc := evFn (X_dc g_db p_db) Tryz.f91 R_dc M_dc
variable {g_db p_db}
theorem ev_dc (k : Nat) (x0 : Dm (.imm L_BatSig)) (x1 : Dm (.clo 147 [I, S_BatBatch])) : E_dc g_db p_db k (x0, x1, ()) =
 (cl (p_db (x0, ((x1.1, (x1.2.1, ())), ()))) (g_db (x0, ((x1.1, (x1.2.1, ())), ()))) fun y0 => (some ((decide ((0 : Int) <= y0.1)), ()))) := by kernel_rfl
theorem S_dc (h_db : C_db p_db g_db) {pre fn} (hev : Hq (E_dc g_db p_db) pre fn) : C_dc pre fn := sound tysOk mixed (fn := Tryz.f91) rfl rfl rfl (.cons h_db .nil) _ hev
end
abbrev M_dd : Lm := [.imm S_BatBatch]
abbrev R_dd : Lr := [(.imm, .bool)]
abbrev In_dd := Iq M_dd
abbrev Out_dd := Oq R_dd M_dd
abbrev C_dd := Cq 79 M_dd R_dd
section
variable (g_d4 : In_d4 -> Out_d4) (p_d4 : In_d4 -> Bool) (g_d6 : In_d6 -> Out_d6) (p_d6 : In_d6 -> Bool) (g_d8 : In_d8 -> Out_d8) (p_d8 : In_d8 -> Bool) (g_dc : In_dc -> Out_dc) (p_dc : In_dc -> Bool)
abbrev X_dd : Ctx := ctx tys 20 (conOf [(145, ⟨M_d4, R_d4, p_d4, g_d4⟩), (146, ⟨M_d6, R_d6, p_d6, g_d6⟩), (29, ⟨M_d8, R_d8, p_d8, g_d8⟩), (91, ⟨M_dc, R_dc, p_dc, g_dc⟩)]) (keepOf []) nF
abbrev E_dd := evFn (X_dd g_d4 p_d4 g_d6 p_d6 g_d8 p_d8 g_dc p_dc) Tryz.f79 R_dd M_dd
variable {g_d4 p_d4 g_d6 p_d6 g_d8 p_d8 g_dc p_dc}
theorem ev_dd (k : Nat) (x0 : Dm (.imm S_BatBatch)) : E_dd g_d4 p_d4 g_d6 p_d6 g_d8 p_d8 g_dc p_dc k (x0, ()) =
 (cl (p_d4 (x0.2.2.1, ((), ()))) (g_d4 (x0.2.2.1, ((), ()))) fun y0 => (bif y0.1 then (some (false, ())) else (cl (p_d6 (x0.2.2.2.2.2, (true, ()))) (g_d6 (x0.2.2.2.2.2, (true, ()))) fun y1 => (bif y1.1 then (some (false, ())) else (cl (p_d8 (x0, ())) (g_d8 (x0, ())) fun y2 => (cl (p_dc (x0.2.2.2.2.1, ((y2.1, (x0, ())), ()))) (g_dc (x0.2.2.2.2.1, ((y2.1, (x0, ())), ()))) fun y3 => (some (y3.1, ())))))))) := by kernel_rfl
theorem S_dd (h_d4 : C_d4 p_d4 g_d4) (h_d6 : C_d6 p_d6 g_d6) (h_d8 : C_d8 p_d8 g_d8) (h_dc : C_dc p_dc g_dc) {pre fn} (hev : Hq (E_dd g_d4 p_d4 g_d6 p_d6 g_d8 p_d8 g_dc p_dc) pre fn) : C_dd pre fn := sound tysOk mixed (fn := Tryz.f79) rfl rfl rfl (.cons h_d4 (.cons h_d6 (.cons h_d8 (.cons h_dc .nil)))) _ hev
end
abbrev M_de : Lm := [.imm S_BatBatch]
abbrev R_de : Lr := [(.imm, .bool)]
abbrev In_de := Iq M_de
abbrev Out_de := Oq R_de M_de
abbrev C_de := Cq 34 M_de R_de
section
variable (g_iin : In_iin -> Out_iin) (g_cv : In_cv -> Out_cv) (p_cv : In_cv -> Bool) (g_d1 : In_d1 -> Out_d1) (p_d1 : In_d1 -> Bool) (g_dd : In_dd -> Out_dd) (p_dd : In_dd -> Bool)
abbrev X_de : Ctx := ctx tys 87 (conOf [(65, ⟨M_iin, R_iin, fun _ => true, g_iin⟩), (88, ⟨M_cv, R_cv, p_cv, g_cv⟩), (91, ⟨M_d1, R_d1, p_d1, g_d1⟩), (79, ⟨M_dd, R_dd, p_dd, g_dd⟩)]) (keepOf [(pt0, (⟨[(1, .asis), (30, .asis), (31, .asis), (32, .asis)], [(1, .asis)], []⟩ : Keep))]) nF
abbrev E_de := evFn (X_de g_iin g_cv p_cv g_d1 p_d1 g_dd p_dd) Tryz.f34 R_de M_de
def h0_de (x0 : Dm (.imm S_BatBatch)) (h0 : Dn I) (h1 : Dn I) : St := mkS [(1, (AV.ptr 1 none [])), (30, (AV.val L_TstTest x0.2.2.1)), (31, (AV.val I h0)), (32, (AV.val I h1))] [(1, (Ob.box S_BatBatch (AV.val S_BatBatch x0)))]
def r_de := rounds (X_de g_iin g_cv p_cv g_d1 p_d1 g_dd p_dd) Tryz.f34 R_de M_de
variable {g_iin g_cv p_cv g_d1 p_d1 g_dd p_dd}
theorem ev_de (k : Nat) (x0 : Dm (.imm S_BatBatch)) : E_de g_iin g_cv p_cv g_d1 p_d1 g_dd p_dd k (x0, ()) =
 (bif (bif (g_iin (x0.1, ((0 : Int), ((5 : Int), ())))).1 then false else true) then (some (false, ())) else (bif (bif (g_iin (x0.2.1, ((1 : Int), ((10000 : Int), ())))).1 then false else true) then (some (false, ())) else (bif (bif (g_iin ((List.length x0.2.2.1 : Int), ((1 : Int), ((4 : Int), ())))).1 then false else true) then (some (false, ())) else (bif (bif (g_iin (x0.2.2.2.1, ((1 : Int), ((4 : Int), ())))).1 then false else true) then (some (false, ())) else (r_de g_iin g_cv p_cv g_d1 p_d1 g_dd p_dd (x0, ()) k pt0 (h0_de x0 (List.length x0.2.2.1 : Int) (0 : Int))))))) := by kernel_rfl
theorem rd0_de (k : Nat) (x0 : Dm (.imm S_BatBatch)) (h0 : Dn I) (h1 : Dn I) : r_de g_iin g_cv p_cv g_d1 p_d1 g_dd p_dd (x0, ()) (k + 1) pt0 (h0_de x0 h0 h1) =
 (lt (rdL (e := S_TstTest) x0.2.2.1 h1) fun s1 => (lt (w64 (h1 - (1 : Int))) fun s0 => (bif (decide (h1 < h0)) then (bif (bif (decide ((0 : Int) <= h1)) then (decide (h1 < (List.length x0.2.2.1 : Int))) else false) then (cl (p_cv (s1, ())) (g_cv (s1, ())) fun y0 => (bif (bif y0.1 then false else true) then (some (false, ())) else (bif (decide ((0 : Int) < h1)) then (bif (bif (decide ((0 : Int) <= s0)) then (decide (s0 < (List.length x0.2.2.1 : Int))) else false) then (bif (decide (s1.1.1 <= (rdL (e := S_TstTest) x0.2.2.1 s0).1.1)) then (some (false, ())) else (r_de g_iin g_cv p_cv g_d1 p_d1 g_dd p_dd (x0, ()) k pt0 (h0_de x0 h0 (w64 (h1 + (1 : Int)))))) else none) else (r_de g_iin g_cv p_cv g_d1 p_d1 g_dd p_dd (x0, ()) k pt0 (h0_de x0 h0 (w64 (h1 + (1 : Int)))))))) else none) else (bif (decide ((6 : Int) < (List.length x0.2.2.2.2.1 : Int))) then (some (false, ())) else (cl (p_d1 (x0.2.2.2.2.1, ((), ()))) (g_d1 (x0.2.2.2.2.1, ((), ()))) fun y1 => (bif y1.1 then (some (false, ())) else (bif (decide ((3 : Int) < (List.length x0.2.2.2.2.2 : Int))) then (some (false, ())) else (bif (bif (decide (x0.2.2.2.1 = (2 : Int))) then false else true) then (bif (bif (decide (x0.2.2.2.1 = (4 : Int))) then false else true) then (some (true, ())) else (cl (p_dd (x0, ())) (g_dd (x0, ())) fun y2 => (some (y2.1, ())))) else (cl (p_dd (x0, ())) (g_dd (x0, ())) fun y3 => (some (y3.1, ()))))))))))) := by kernel_rfl
theorem S_de (h_iin : C_iin (fun _ => true) g_iin) (h_cv : C_cv p_cv g_cv) (h_d1 : C_d1 p_d1 g_d1) (h_dd : C_dd p_dd g_dd) {pre fn} (hev : Hq (E_de g_iin g_cv p_cv g_d1 p_d1 g_dd p_dd) pre fn) : C_de pre fn := sound tysOk mixed (fn := Tryz.f34) rfl rfl rfl (.cons h_iin (.cons h_cv (.cons h_d1 (.cons h_dd .nil)))) _ hev
end
abbrev M_df : Lm := [.imm L_SpcTest, .imm L_SpcTest]
abbrev R_df : Lr := [(.imm, .bool)]
abbrev In_df := Iq M_df
abbrev Out_df := Oq R_df M_df
abbrev C_df := Cq 167 M_df R_df
abbrev X_df : Ctx := ctx tys 26 (conOf []) (keepOf [(pt0, (⟨[(0, .asis), (1, .asis), (12, .asis), (13, .asis)], [], []⟩ : Keep))]) nF
abbrev E_df := evFn X_df Tryz.f167 R_df M_df
def h0_df (x0 : Dm (.imm L_SpcTest)) (x1 : Dm (.imm L_SpcTest)) (h0 : Dn I) (h1 : Dn I) : St := mkS [(0, (AV.val L_SpcTest x0)), (1, (AV.val L_SpcTest x1)), (12, (AV.val I h0)), (13, (AV.val I h1))] []
def r_df := rounds X_df Tryz.f167 R_df M_df
theorem ev_df (k : Nat) (x0 : Dm (.imm L_SpcTest)) (x1 : Dm (.imm L_SpcTest)) : E_df k (x0, x1, ()) =
 (bif (bif (decide ((List.length x0 : Int) = (List.length x1 : Int))) then false else true) then (some (false, ())) else (r_df  (x0, x1, ()) k pt0 (h0_df x0 x1 (List.length x0 : Int) (0 : Int)))) := by kernel_rfl
theorem rd0_df (k : Nat) (x0 : Dm (.imm L_SpcTest)) (x1 : Dm (.imm L_SpcTest)) (h0 : Dn I) (h1 : Dn I) : r_df  (x0, x1, ()) (k + 1) pt0 (h0_df x0 x1 h0 h1) =
 (bif (decide (h1 < h0)) then (bif (bif (decide ((0 : Int) <= h1)) then (decide (h1 < (List.length x0 : Int))) else false) then (bif (bif (decide ((0 : Int) <= h1)) then (decide (h1 < (List.length x1 : Int))) else false) then (bif (bif (Sh.beq S_SpcTest (rdL (e := S_SpcTest) x0 h1) (rdL (e := S_SpcTest) x1 h1)) then false else true) then (some (false, ())) else (r_df  (x0, x1, ()) k pt0 (h0_df x0 x1 h0 (w64 (h1 + (1 : Int)))))) else none) else none) else (some (true, ()))) := by kernel_rfl
theorem S_df  {pre fn} (hev : Hq E_df pre fn) : C_df pre fn := sound tysOk mixed (fn := Tryz.f167) rfl rfl rfl ConsOk.nil _ hev
abbrev M_dg : Lm := [.imm S_BatSig, .pR S_HouHouse]
abbrev R_dg : Lr := [(.imm, .bool)]
abbrev In_dg := Iq M_dg
abbrev Out_dg := Oq R_dg M_dg
abbrev C_dg := Cq 166 M_dg R_dg
abbrev X_dg : Ctx := ctx tys 22 (conOf []) (keepOf []) nF
abbrev E_dg := evFn X_dg Tryz.f166 R_dg M_dg
theorem ev_dg (k : Nat) (x0 : Dm (.imm S_BatSig)) (x1 : Dm (.pR S_HouHouse)) : E_dg k (x0, x1, ()) =
 (bif (decide ((List.length x1.1 : Int) < x0.1)) then (some (true, ())) else (bif (bif (decide ((0 : Int) <= (w64 (x0.1 - (1 : Int))))) then (decide ((w64 (x0.1 - (1 : Int))) < (List.length x1.1 : Int))) else false) then (some ((bif (decide ((rdL (e := I) x1.1 (w64 (x0.1 - (1 : Int)))) = x0.2.1)) then false else true), ())) else none)) := by kernel_rfl
theorem S_dg  {pre fn} (hev : Hq E_dg pre fn) : C_dg pre fn := sound tysOk mixed (fn := Tryz.f166) rfl rfl rfl ConsOk.nil _ hev
abbrev M_dh : Lm := [.imm L_BatSig, .clo 166 [S_HouHouse]]
abbrev R_dh : Lr := [(.imm, I)]
abbrev In_dh := Iq M_dh
abbrev Out_dh := Oq R_dh M_dh
abbrev C_dh := Cq 158 M_dh R_dh
section
variable (g_dg : In_dg -> Out_dg) (p_dg : In_dg -> Bool)
abbrev X_dh : Ctx := ctx tys 19 (conOf [(166, ⟨M_dg, R_dg, p_dg, g_dg⟩)]) (keepOf [(pt1, (⟨[(0, .asis), (1, .asis), (7, .asis), (8, .asis)], [(1000005000, .asis)], []⟩ : Keep))]) nF
abbrev E_dh := evFn (X_dh g_dg p_dg) Tryz.f158 R_dh M_dh
def h0_dh (x0 : Dm (.imm L_BatSig)) (x1 : Dm (.clo 166 [S_HouHouse])) (h0 : Dn I) (h1 : Dn I) : St := mkS [(0, (AV.val L_BatSig x0)), (1, (AV.fn 166 [1000005000])), (7, (AV.val I h0)), (8, (AV.val I h1))] [(1000005000, (Ob.cbox S_HouHouse x1.1))]
def r_dh := rounds (X_dh g_dg p_dg) Tryz.f158 R_dh M_dh
variable {g_dg p_dg}
theorem ev_dh (k : Nat) (x0 : Dm (.imm L_BatSig)) (x1 : Dm (.clo 166 [S_HouHouse])) : E_dh g_dg p_dg k (x0, x1, ()) =
 (r_dh g_dg p_dg (x0, x1, ()) k pt1 (h0_dh x0 x1 (List.length x0 : Int) (0 : Int))) := by kernel_rfl
theorem rd0_dh (k : Nat) (x0 : Dm (.imm L_BatSig)) (x1 : Dm (.clo 166 [S_HouHouse])) (h0 : Dn I) (h1 : Dn I) : r_dh g_dg p_dg (x0, x1, ()) (k + 1) pt1 (h0_dh x0 x1 h0 h1) =
 (bif (decide (h1 < h0)) then (bif (bif (decide ((0 : Int) <= h1)) then (decide (h1 < (List.length x0 : Int))) else false) then (cl (p_dg ((rdL (e := S_BatSig) x0 h1), (x1.1, ()))) (g_dg ((rdL (e := S_BatSig) x0 h1), (x1.1, ()))) fun y0 => (bif y0.1 then (some (h1, ())) else (r_dh g_dg p_dg (x0, x1, ()) k pt1 (h0_dh x0 x1 h0 (w64 (h1 + (1 : Int))))))) else none) else (some ((-1 : Int), ()))) := by kernel_rfl
theorem S_dh (h_dg : C_dg p_dg g_dg) {pre fn} (hev : Hq (E_dh g_dg p_dg) pre fn) : C_dh pre fn := sound tysOk mixed (fn := Tryz.f158) rfl rfl rfl (.cons h_dg .nil) _ hev
end
abbrev M_di : Lm := [.imm L_BatSig, .clo 166 [S_HouHouse]]
abbrev R_di : Lr := [(.imm, .bool)]
abbrev In_di := Iq M_di
abbrev Out_di := Oq R_di M_di
abbrev C_di := Cq 91 M_di R_di
section
variable (g_dh : In_dh -> Out_dh) (p_dh : In_dh -> Bool)
abbrev X_di : Ctx := ctx tys 9 (conOf [(158, ⟨M_dh, R_dh, p_dh, g_dh⟩)]) (keepOf []) nF
abbrev E_di := evFn (X_di g_dh p_dh) Tryz.f91 R_di M_di
variable {g_dh p_dh}
theorem ev_di (k : Nat) (x0 : Dm (.imm L_BatSig)) (x1 : Dm (.clo 166 [S_HouHouse])) : E_di g_dh p_dh k (x0, x1, ()) =
 (cl (p_dh (x0, ((x1.1, ()), ()))) (g_dh (x0, ((x1.1, ()), ()))) fun y0 => (some ((decide ((0 : Int) <= y0.1)), ()))) := by kernel_rfl
theorem S_di (h_dh : C_dh p_dh g_dh) {pre fn} (hev : Hq (E_di g_dh p_dh) pre fn) : C_di pre fn := sound tysOk mixed (fn := Tryz.f91) rfl rfl rfl (.cons h_dh .nil) _ hev
end
abbrev M_dj : Lm := [.imm S_HouHouse, .imm S_BatBatch]
abbrev R_dj : Lr := [(.imm, .bool)]
abbrev In_dj := Iq M_dj
abbrev Out_dj := Oq R_dj M_dj
abbrev C_dj := Cq 107 M_dj R_dj
section
variable (g_de : In_de -> Out_de) (p_de : In_de -> Bool) (g_df : In_df -> Out_df) (p_df : In_df -> Bool) (g_di : In_di -> Out_di) (p_di : In_di -> Bool)
abbrev X_dj : Ctx := ctx tys 60 (conOf [(34, ⟨M_de, R_de, p_de, g_de⟩), (167, ⟨M_df, R_df, p_df, g_df⟩), (91, ⟨M_di, R_di, p_di, g_di⟩)]) (keepOf [(pt2, (⟨[(2, .asis), (3, .asis), (5, .own), (31, .asis), (32, .asis), (33, .asis)], [(2, .asis), (3, .asis)], []⟩ : Keep))]) nF
abbrev E_dj := evFn (X_dj g_de p_de g_df p_df g_di p_di) Tryz.f107 R_dj M_dj
def h0_dj (x0 : Dm (.imm S_HouHouse)) (x1 : Dm (.imm S_BatBatch)) (h0 : Dn I) (h1 : Dn I) (h2 : (List (Dn S_SpcTest))) : St := mkS [(2, (AV.ptr 2 none [])), (3, (AV.ptr 3 none [])), (5, (AV.sref 2505 none [])), (31, (AV.val L_TstTest x1.2.2.1)), (32, (AV.val I h0)), (33, (AV.val I h1))] [(2, (Ob.box S_HouHouse (AV.val S_HouHouse x0))), (3, (Ob.box S_BatBatch (AV.val S_BatBatch x1))), (2505, (Ob.arr 53 S_SpcTest h2))]
def r_dj := rounds (X_dj g_de p_de g_df p_df g_di p_di) Tryz.f107 R_dj M_dj
variable {g_de p_de g_df p_df g_di p_di}
theorem ev_dj (k : Nat) (x0 : Dm (.imm S_HouHouse)) (x1 : Dm (.imm S_BatBatch)) : E_dj g_de p_de g_df p_df g_di p_di k (x0, x1, ()) =
 (cl (p_de (x1, ())) (g_de (x1, ())) fun y0 => (bif (bif y0.1 then false else true) then (some (false, ())) else (bif (decide ((List.length x0.2.1 : Int) <= x1.1)) then (some (false, ())) else (bif (bif (decide ((0 : Int) <= x1.1)) then (decide (x1.1 < (List.length x0.2.1 : Int))) else false) then (bif (decide ((rdL (e := S_SpcSpec) x0.2.1 x1.1).2 = (1 : Int))) then (some (false, ())) else (r_dj g_de p_de g_df p_df g_di p_di (x0, x1, ()) k pt2 (h0_dj x0 x1 (List.length x1.2.2.1 : Int) (0 : Int) []))) else none)))) := by kernel_rfl
theorem rd0_dj (k : Nat) (x0 : Dm (.imm S_HouHouse)) (x1 : Dm (.imm S_BatBatch)) (h0 : Dn I) (h1 : Dn I) (h2 : (List (Dn S_SpcTest))) : r_dj g_de p_de g_df p_df g_di p_di (x0, x1, ()) (k + 1) pt2 (h0_dj x0 x1 h0 h1 h2) =
 (bif (decide (h1 < h0)) then (bif (bif (decide ((0 : Int) <= h1)) then (decide (h1 < (List.length x1.2.2.1 : Int))) else false) then (bif (fitL h2 [((rdL (e := S_TstTest) x1.2.2.1 h1).1)]) then (r_dj g_de p_de g_df p_df g_di p_di (x0, x1, ()) k pt2 (h0_dj x0 x1 h0 (w64 (h1 + (1 : Int))) (List.append h2 [((rdL (e := S_TstTest) x1.2.2.1 h1).1)]))) else none) else none) else (bif (bif (decide ((0 : Int) <= x1.1)) then (decide (x1.1 < (List.length x0.2.1 : Int))) else false) then (cl (p_df (h2, ((rdL (e := S_SpcSpec) x0.2.1 x1.1).1, ()))) (g_df (h2, ((rdL (e := S_SpcSpec) x0.2.1 x1.1).1, ()))) fun y0 => (bif y0.1 then (cl (p_di (x1.2.2.2.2.1, ((x0, ()), ()))) (g_di (x1.2.2.2.2.1, ((x0, ()), ()))) fun y1 => (some ((bif y1.1 then false else true), ()))) else (some (false, ())))) else none)) := by kernel_rfl
theorem S_dj (h_de : C_de p_de g_de) (h_df : C_df p_df g_df) (h_di : C_di p_di g_di) {pre fn} (hev : Hq (E_dj g_de p_de g_df p_df g_di p_di) pre fn) : C_dj pre fn := sound tysOk mixed (fn := Tryz.f107) rfl rfl rfl (.cons h_de (.cons h_df (.cons h_di .nil))) _ hev
end
abbrev M_dk : Lm := [.imm S_BatBatch, .pR S_HouHouse]
abbrev R_dk : Lr := [(.imm, .bool)]
abbrev In_dk := Iq M_dk
abbrev Out_dk := Oq R_dk M_dk
abbrev C_dk := Cq 106 M_dk R_dk
section
variable (g_dj : In_dj -> Out_dj) (p_dj : In_dj -> Bool)
abbrev X_dk : Ctx := ctx tys 8 (conOf [(107, ⟨M_dj, R_dj, p_dj, g_dj⟩)]) (keepOf []) nF
abbrev E_dk := evFn (X_dk g_dj p_dj) Tryz.f106 R_dk M_dk
variable {g_dj p_dj}
theorem ev_dk (k : Nat) (x0 : Dm (.imm S_BatBatch)) (x1 : Dm (.pR S_HouHouse)) : E_dk g_dj p_dj k (x0, x1, ()) =
 (cl (p_dj (x1, (x0, ()))) (g_dj (x1, (x0, ()))) fun y0 => (some ((bif y0.1 then false else true), ()))) := by kernel_rfl
theorem S_dk (h_dj : C_dj p_dj g_dj) {pre fn} (hev : Hq (E_dk g_dj p_dj) pre fn) : C_dk pre fn := sound tysOk mixed (fn := Tryz.f106) rfl rfl rfl (.cons h_dj .nil) _ hev
end
abbrev M_dl : Lm := [.imm L_BatBatch, .clo 106 [S_HouHouse]]
abbrev R_dl : Lr := [(.imm, I)]
abbrev In_dl := Iq M_dl
abbrev Out_dl := Oq R_dl M_dl
abbrev C_dl := Cq 170 M_dl R_dl
section
variable (g_dk : In_dk -> Out_dk) (p_dk : In_dk -> Bool)
abbrev X_dl : Ctx := ctx tys 19 (conOf [(106, ⟨M_dk, R_dk, p_dk, g_dk⟩)]) (keepOf [(pt1, (⟨[(0, .asis), (1, .asis), (7, .asis), (8, .asis)], [(1000005000, .asis)], []⟩ : Keep))]) nF
abbrev E_dl := evFn (X_dl g_dk p_dk) Tryz.f170 R_dl M_dl
def h0_dl (x0 : Dm (.imm L_BatBatch)) (x1 : Dm (.clo 106 [S_HouHouse])) (h0 : Dn I) (h1 : Dn I) : St := mkS [(0, (AV.val L_BatBatch x0)), (1, (AV.fn 106 [1000005000])), (7, (AV.val I h0)), (8, (AV.val I h1))] [(1000005000, (Ob.cbox S_HouHouse x1.1))]
def r_dl := rounds (X_dl g_dk p_dk) Tryz.f170 R_dl M_dl
variable {g_dk p_dk}
theorem ev_dl (k : Nat) (x0 : Dm (.imm L_BatBatch)) (x1 : Dm (.clo 106 [S_HouHouse])) : E_dl g_dk p_dk k (x0, x1, ()) =
 (r_dl g_dk p_dk (x0, x1, ()) k pt1 (h0_dl x0 x1 (List.length x0 : Int) (0 : Int))) := by kernel_rfl
theorem rd0_dl (k : Nat) (x0 : Dm (.imm L_BatBatch)) (x1 : Dm (.clo 106 [S_HouHouse])) (h0 : Dn I) (h1 : Dn I) : r_dl g_dk p_dk (x0, x1, ()) (k + 1) pt1 (h0_dl x0 x1 h0 h1) =
 (bif (decide (h1 < h0)) then (bif (bif (decide ((0 : Int) <= h1)) then (decide (h1 < (List.length x0 : Int))) else false) then (cl (p_dk ((rdL (e := S_BatBatch) x0 h1), (x1.1, ()))) (g_dk ((rdL (e := S_BatBatch) x0 h1), (x1.1, ()))) fun y0 => (bif y0.1 then (some (h1, ())) else (r_dl g_dk p_dk (x0, x1, ()) k pt1 (h0_dl x0 x1 h0 (w64 (h1 + (1 : Int))))))) else none) else (some ((-1 : Int), ()))) := by kernel_rfl
theorem S_dl (h_dk : C_dk p_dk g_dk) {pre fn} (hev : Hq (E_dl g_dk p_dk) pre fn) : C_dl pre fn := sound tysOk mixed (fn := Tryz.f170) rfl rfl rfl (.cons h_dk .nil) _ hev
end
abbrev M_dm : Lm := [.imm L_BatBatch, .clo 106 [S_HouHouse]]
abbrev R_dm : Lr := [(.imm, .bool)]
abbrev In_dm := Iq M_dm
abbrev Out_dm := Oq R_dm M_dm
abbrev C_dm := Cq 110 M_dm R_dm
section
variable (g_dl : In_dl -> Out_dl) (p_dl : In_dl -> Bool)
abbrev X_dm : Ctx := ctx tys 9 (conOf [(170, ⟨M_dl, R_dl, p_dl, g_dl⟩)]) (keepOf []) nF
abbrev E_dm := evFn (X_dm g_dl p_dl) Tryz.f110 R_dm M_dm
variable {g_dl p_dl}
theorem ev_dm (k : Nat) (x0 : Dm (.imm L_BatBatch)) (x1 : Dm (.clo 106 [S_HouHouse])) : E_dm g_dl p_dl k (x0, x1, ()) =
 (cl (p_dl (x0, ((x1.1, ()), ()))) (g_dl (x0, ((x1.1, ()), ()))) fun y0 => (some ((decide ((0 : Int) <= y0.1)), ()))) := by kernel_rfl
theorem S_dm (h_dl : C_dl p_dl g_dl) {pre fn} (hev : Hq (E_dm g_dl p_dl) pre fn) : C_dm pre fn := sound tysOk mixed (fn := Tryz.f110) rfl rfl rfl (.cons h_dl .nil) _ hev
end
abbrev M_dn : Lm := [.imm S_HouHouse]
abbrev R_dn : Lr := [(.imm, .bool)]
abbrev In_dn := Iq M_dn
abbrev Out_dn := Oq R_dn M_dn
abbrev C_dn := Cq 50 M_dn R_dn
section
variable (g_c7 : In_c7 -> Out_c7) (p_c7 : In_c7 -> Bool) (g_ci : In_ci -> Out_ci) (p_ci : In_ci -> Bool) (g_dm : In_dm -> Out_dm) (p_dm : In_dm -> Bool)
abbrev X_dn : Ctx := ctx tys 26 (conOf [(108, ⟨M_c7, R_c7, p_c7, g_c7⟩), (109, ⟨M_ci, R_ci, p_ci, g_ci⟩), (110, ⟨M_dm, R_dm, p_dm, g_dm⟩)]) (keepOf []) nF
abbrev E_dn := evFn (X_dn g_c7 p_c7 g_ci p_ci g_dm p_dm) Tryz.f50 R_dn M_dn
variable {g_c7 p_c7 g_ci p_ci g_dm p_dm}
theorem ev_dn (k : Nat) (x0 : Dm (.imm S_HouHouse)) : E_dn g_c7 p_c7 g_ci p_ci g_dm p_dm k (x0, ()) =
 (cl (p_c7 (x0.1, ())) (g_c7 (x0.1, ())) fun y0 => (bif y0.1 then (cl (p_ci (x0.2.1, ())) (g_ci (x0.2.1, ())) fun y1 => (bif y1.1 then (bif (decide ((List.length x0.2.2 : Int) <= (4 : Int))) then (cl (p_dm (x0.2.2, ((x0, ()), ()))) (g_dm (x0.2.2, ((x0, ()), ()))) fun y2 => (some ((bif y2.1 then false else true), ()))) else (some (false, ()))) else (some (false, ())))) else (some (false, ())))) := by kernel_rfl
theorem S_dn (h_c7 : C_c7 p_c7 g_c7) (h_ci : C_ci p_ci g_ci) (h_dm : C_dm p_dm g_dm) {pre fn} (hev : Hq (E_dn g_c7 p_c7 g_ci p_ci g_dm p_dm) pre fn) : C_dn pre fn := sound tysOk mixed (fn := Tryz.f50) rfl rfl rfl (.cons h_c7 (.cons h_ci (.cons h_dm .nil))) _ hev
end
abbrev M_do : Lm := []
abbrev R_do : Lr := [(.imm, L_manner)]
abbrev In_do := Iq M_do
abbrev Out_do := Oq R_do M_do
abbrev C_do := Cq 140 M_do R_do
abbrev X_do : Ctx := ctx tys 35 (conOf []) (keepOf []) (fzOf [(5, [1, 2, 3, 4])])
abbrev E_do := evFn X_do Tryz.f140 R_do M_do
theorem ev_do (k : Nat)  : E_do k (()) =
 (some ([((ByteArray.mk (Array.mk [])), ([], (ByteArray.mk (Array.mk [])))), ((ByteArray.mk (Array.mk [(100 : UInt8), (114 : UInt8), (97 : UInt8), (102 : UInt8), (116 : UInt8)])), ([(4 : Int)], (ByteArray.mk (Array.mk [])))), ((ByteArray.mk (Array.mk [(114 : UInt8), (97 : UInt8), (105 : UInt8), (115 : UInt8), (101 : UInt8)])), ([(4 : Int)], (ByteArray.mk (Array.mk [(78 : UInt8)])))), ((ByteArray.mk (Array.mk [(116 : UInt8), (97 : UInt8), (107 : UInt8), (101 : UInt8)])), ([(1 : Int), (2 : Int)], (ByteArray.mk (Array.mk [(78 : UInt8)])))), ((ByteArray.mk (Array.mk [(112 : UInt8), (117 : UInt8), (116 : UInt8)])), ([(1 : Int), (2 : Int)], (ByteArray.mk (Array.mk [(66 : UInt8), (84 : UInt8), (86 : UInt8)])))), ((ByteArray.mk (Array.mk [(99 : UInt8), (97 : UInt8), (117 : UInt8), (115 : UInt8), (101 : UInt8)])), ([(2 : Int), (3 : Int)], (ByteArray.mk (Array.mk [(66 : UInt8), (84 : UInt8), (78 : UInt8)])))), ((ByteArray.mk (Array.mk [(109 : UInt8), (111 : UInt8), (114 : UInt8), (101 : UInt8)])), ([(1 : Int), (2 : Int)], (ByteArray.mk (Array.mk [(66 : UInt8), (84 : UInt8), (86 : UInt8)])))), ((ByteArray.mk (Array.mk [(111 : UInt8), (112 : UInt8), (101 : UInt8), (110 : UInt8)])), ([(1 : Int), (2 : Int)], (ByteArray.mk (Array.mk [(66 : UInt8)])))), ((ByteArray.mk (Array.mk [(99 : UInt8), (108 : UInt8), (111 : UInt8), (115 : UInt8), (101 : UInt8)])), ([(2 : Int), (3 : Int)], (ByteArray.mk (Array.mk [(66 : UInt8), (78 : UInt8)])))), ((ByteArray.mk (Array.mk [(115 : UInt8), (105 : UInt8), (103 : UInt8), (110 : UInt8)])), ([(2 : Int), (3 : Int)], (ByteArray.mk (Array.mk [(66 : UInt8)])))), ((ByteArray.mk (Array.mk [(102 : UInt8), (114 : UInt8), (101 : UInt8), (101 : UInt8)])), ([(3 : Int)], (ByteArray.mk (Array.mk [(66 : UInt8)])))), ((ByteArray.mk (Array.mk [(114 : UInt8), (101 : UInt8), (102 : UInt8), (117 : UInt8), (115 : UInt8), (101 : UInt8)])), ([(3 : Int)], (ByteArray.mk (Array.mk [(66 : UInt8)])))), ((ByteArray.mk (Array.mk [(114 : UInt8), (101 : UInt8), (99 : UInt8), (97 : UInt8), (108 : UInt8), (108 : UInt8)])), ([(3 : Int)], (ByteArray.mk (Array.mk [(66 : UInt8)]))))], ())) := by kernel_rfl
theorem S_do  {pre fn} (hev : Hq E_do pre fn) : C_do pre fn := sound tysOk mixed (fn := Tryz.f140) rfl rfl rfl ConsOk.nil _ hev
abbrev M_dp : Lm := [.imm I]
abbrev R_dp : Lr := [(.imm, S_manner)]
abbrev In_dp := Iq M_dp
abbrev Out_dp := Oq R_dp M_dp
abbrev C_dp := Cq 71 M_dp R_dp
section
variable (g_iin : In_iin -> Out_iin) (g_do : In_do -> Out_do)
abbrev X_dp : Ctx := ctx tys 11 (conOf [(65, ⟨M_iin, R_iin, fun _ => true, g_iin⟩), (140, ⟨M_do, R_do, fun _ => true, g_do⟩)]) (keepOf []) nF
abbrev E_dp := evFn (X_dp g_iin g_do) Tryz.f71 R_dp M_dp
variable {g_iin g_do}
theorem ev_dp (k : Nat) (x0 : Dm (.imm I)) : E_dp g_iin g_do k (x0, ()) =
 (bif (bif (g_iin (x0, ((1 : Int), ((12 : Int), ())))).1 then false else true) then (some (((ByteArray.mk (Array.mk [])), ([], (ByteArray.mk (Array.mk [])))), ())) else (bif (bif (decide ((0 : Int) <= x0)) then (decide (x0 < (List.length (g_do ()).1 : Int))) else false) then (some ((rdL (e := S_manner) (g_do ()).1 x0), ())) else none)) := by kernel_rfl
theorem S_dp (h_iin : C_iin (fun _ => true) g_iin) (h_do : C_do (fun _ => true) g_do) {pre fn} (hev : Hq (E_dp g_iin g_do) pre fn) : C_dp pre fn := sound tysOk mixed (fn := Tryz.f71) rfl rfl rfl (.cons h_iin (.cons h_do .nil)) _ hev
end
abbrev M_dq : Lm := [.imm .str, .imm U8]
abbrev R_dq : Lr := [(.imm, I)]
abbrev In_dq := Iq M_dq
abbrev Out_dq := Oq R_dq M_dq
abbrev C_dq := Cq 218 M_dq R_dq
theorem s_dq : C_dq (fun _ => true) (fun x => (Go.Lib.indexByte x.1.data.toList x.2.1.toNat.toUInt8, ())) := sound_indexByte (fn := Tryz.f218) rfl rfl rfl rfl rfl
abbrev M_dr : Lm := [.imm .str, .imm U8]
abbrev R_dr : Lr := [(.imm, I)]
abbrev In_dr := Iq M_dr
abbrev Out_dr := Oq R_dr M_dr
abbrev C_dr := Cq 204 M_dr R_dr
section
variable (g_dq : In_dq -> Out_dq) (p_dq : In_dq -> Bool)
abbrev X_dr : Ctx := ctx tys 8 (conOf [(218, ⟨M_dq, R_dq, p_dq, g_dq⟩)]) (keepOf []) nF
abbrev E_dr := evFn (X_dr g_dq p_dq) Tryz.f204 R_dr M_dr
variable {g_dq p_dq}
theorem ev_dr (k : Nat) (x0 : Dm (.imm .str)) (x1 : Dm (.imm U8)) : E_dr g_dq p_dq k (x0, x1, ()) =
 (cl (p_dq (x0, (x1, ()))) (g_dq (x0, (x1, ()))) fun y0 => (some (y0.1, ()))) := by kernel_rfl
theorem S_dr (h_dq : C_dq p_dq g_dq) {pre fn} (hev : Hq (E_dr g_dq p_dq) pre fn) : C_dr pre fn := sound tysOk mixed (fn := Tryz.f204) rfl rfl rfl (.cons h_dq .nil) _ hev
end
abbrev M_ds : Lm := [.imm .str, .imm .str]
abbrev R_ds : Lr := [(.imm, I)]
abbrev In_ds := Iq M_ds
abbrev Out_ds := Oq R_ds M_ds
abbrev C_ds := Cq 187 M_ds R_ds
section
variable (g_dr : In_dr -> Out_dr) (p_dr : In_dr -> Bool)
abbrev X_ds : Ctx := ctx tys 143 (conOf [(204, ⟨M_dr, R_dr, p_dr, g_dr⟩)]) (keepOf [([false, false, true, true, true, true, true, true, true, true], (⟨[(0, .asis), (1, .asis), (5, .asis), (6, .asis), (7, .asis), (8, .asis), (9, .asis), (10, .asis)], [], [999999]⟩ : Keep))]) nF
abbrev E_ds := evFn (X_ds g_dr p_dr) Tryz.f187 R_ds M_ds
def r_ds := rounds (X_ds g_dr p_dr) Tryz.f187 R_ds M_ds
variable {g_dr p_dr}
theorem ev_ds (k : Nat) (x0 : Dm (.imm .str)) (x1 : Dm (.imm .str)) : E_ds g_dr p_dr k (x0, x1, ()) =
 (bif (decide (((ByteArray.size x1 : Nat) : Int) = (0 : Int))) then (some ((0 : Int), ())) else (bif (ByteArray.toList x1 == ByteArray.toList x0) then (some ((0 : Int), ())) else (bif (decide (((ByteArray.size x1 : Nat) : Int) = (1 : Int))) then (bif (bif (decide ((0 : Int) <= (0 : Int))) then (decide ((0 : Int) < ((ByteArray.size x1 : Nat) : Int))) else false) then (cl (p_dr (x0, ((strAt x1 (0 : Int)), ()))) (g_dr (x0, ((strAt x1 (0 : Int)), ()))) fun y0 => (some (y0.1, ()))) else none) else (bif (decide (((ByteArray.size x0 : Nat) : Int) <= ((ByteArray.size x1 : Nat) : Int))) then (some ((-1 : Int), ())) else none)))) := by kernel_rfl
theorem S_ds (h_dr : C_dr p_dr g_dr) {pre fn} (hev : Hq (E_ds g_dr p_dr) pre fn) : C_ds pre fn := sound tysOk mixed (fn := Tryz.f187) rfl rfl rfl (.cons h_dr .nil) _ hev
end
abbrev M_dt : Lm := [.imm .str, .imm .str]
abbrev R_dt : Lr := [(.imm, I)]
abbrev In_dt := Iq M_dt
abbrev Out_dt := Oq R_dt M_dt
abbrev C_dt := Cq 141 M_dt R_dt
section
variable (g_ds : In_ds -> Out_ds) (p_ds : In_ds -> Bool)
abbrev X_dt : Ctx := ctx tys 8 (conOf [(187, ⟨M_ds, R_ds, p_ds, g_ds⟩)]) (keepOf []) nF
abbrev E_dt := evFn (X_dt g_ds p_ds) Tryz.f141 R_dt M_dt
variable {g_ds p_ds}
theorem ev_dt (k : Nat) (x0 : Dm (.imm .str)) (x1 : Dm (.imm .str)) : E_dt g_ds p_ds k (x0, x1, ()) =
 (cl (p_ds (x0, (x1, ()))) (g_ds (x0, (x1, ()))) fun y0 => (some (y0.1, ()))) := by kernel_rfl
theorem S_dt (h_ds : C_ds p_ds g_ds) {pre fn} (hev : Hq (E_dt g_ds p_ds) pre fn) : C_dt pre fn := sound tysOk mixed (fn := Tryz.f141) rfl rfl rfl (.cons h_ds .nil) _ hev
end
abbrev M_du : Lm := [.imm .str, .imm .str]
abbrev R_du : Lr := [(.imm, .bool)]
abbrev In_du := Iq M_du
abbrev Out_du := Oq R_du M_du
abbrev C_du := Cq 73 M_du R_du
section
variable (g_dt : In_dt -> Out_dt) (p_dt : In_dt -> Bool)
abbrev X_du : Ctx := ctx tys 9 (conOf [(141, ⟨M_dt, R_dt, p_dt, g_dt⟩)]) (keepOf []) nF
abbrev E_du := evFn (X_du g_dt p_dt) Tryz.f73 R_du M_du
variable {g_dt p_dt}
theorem ev_du (k : Nat) (x0 : Dm (.imm .str)) (x1 : Dm (.imm .str)) : E_du g_dt p_dt k (x0, x1, ()) =
 (cl (p_dt (x0, (x1, ()))) (g_dt (x0, (x1, ()))) fun y0 => (some ((decide ((0 : Int) <= y0.1)), ()))) := by kernel_rfl
theorem S_du (h_dt : C_dt p_dt g_dt) {pre fn} (hev : Hq (E_du g_dt p_dt) pre fn) : C_du pre fn := sound tysOk mixed (fn := Tryz.f73) rfl rfl rfl (.cons h_dt .nil) _ hev
end
abbrev M_dv : Lm := [.imm .str, .pR S_manner]
abbrev R_dv : Lr := [(.imm, .bool)]
abbrev In_dv := Iq M_dv
abbrev Out_dv := Oq R_dv M_dv
abbrev C_dv := Cq 72 M_dv R_dv
section
variable (g_du : In_du -> Out_du) (p_du : In_du -> Bool)
abbrev X_dv : Ctx := ctx tys 8 (conOf [(73, ⟨M_du, R_du, p_du, g_du⟩)]) (keepOf []) nF
abbrev E_dv := evFn (X_dv g_du p_du) Tryz.f72 R_dv M_dv
variable {g_du p_du}
theorem ev_dv (k : Nat) (x0 : Dm (.imm .str)) (x1 : Dm (.pR S_manner)) : E_dv g_du p_du k (x0, x1, ()) =
 (cl (p_du (x1.2.2, (x0, ()))) (g_du (x1.2.2, (x0, ()))) fun y0 => (some (y0.1, ()))) := by kernel_rfl
theorem S_dv (h_du : C_du p_du g_du) {pre fn} (hev : Hq (E_dv g_du p_du) pre fn) : C_dv pre fn := sound tysOk mixed (fn := Tryz.f72) rfl rfl rfl (.cons h_du .nil) _ hev
end
abbrev M_dw : Lm := [.imm S_ReqReq]
abbrev R_dw : Lr := [(.imm, .bool)]
abbrev In_dw := Iq M_dw
abbrev Out_dw := Oq R_dw M_dw
abbrev C_dw := Cq 24 M_dw R_dw
section
variable (g_dp : In_dp -> Out_dp) (g_ch : In_ch -> Out_ch) (p_ch : In_ch -> Bool) (g_dv : In_dv -> Out_dv) (p_dv : In_dv -> Bool) (g_iin : In_iin -> Out_iin) (g_ca : In_ca -> Out_ca) (g_c8 : In_c8 -> Out_c8) (g_cw : In_cw -> Out_cw)
abbrev X_dw : Ctx := ctx tys 92 (conOf [(71, ⟨M_dp, R_dp, fun _ => true, g_dp⟩), (74, ⟨M_ch, R_ch, p_ch, g_ch⟩), (72, ⟨M_dv, R_dv, p_dv, g_dv⟩), (65, ⟨M_iin, R_iin, fun _ => true, g_iin⟩), (75, ⟨M_ca, R_ca, fun _ => true, g_ca⟩), (76, ⟨M_c8, R_c8, fun _ => true, g_c8⟩), (77, ⟨M_cw, R_cw, fun _ => true, g_cw⟩)]) (keepOf []) nF
abbrev E_dw := evFn (X_dw g_dp g_ch p_ch g_dv p_dv g_iin g_ca g_c8 g_cw) Tryz.f24 R_dw M_dw
variable {g_dp g_ch p_ch g_dv p_dv g_iin g_ca g_c8 g_cw}
theorem ev_dw (k : Nat) (x0 : Dm (.imm S_ReqReq)) : E_dw g_dp g_ch p_ch g_dv p_dv g_iin g_ca g_c8 g_cw k (x0, ()) =
 (lt (ByteArray.toList (g_dp (x0.2.1, ())).1.1 == ByteArray.toList (ByteArray.mk (Array.mk []))) fun s10 => (lt (decide ((List.length x0.2.2.2.2.2.2 : Int) = (0 : Int))) fun s9 => (lt (g_iin (x0.2.2.2.2.1, ((0 : Int), ((10000 : Int), ())))) fun s8 => (lt (g_iin (x0.2.2.1, ((0 : Int), ((9 : Int), ())))) fun s4 => (lt (ByteArray.mk (Array.mk [(66 : UInt8)])) fun s3 => (lt (ByteArray.mk (Array.mk [(78 : UInt8)])) fun s2 => (lt (g_dv (s2, ((g_dp (x0.2.1, ())).1, ()))) fun s7 => (lt (ByteArray.mk (Array.mk [(86 : UInt8)])) fun s1 => (lt (g_dv (s1, ((g_dp (x0.2.1, ())).1, ()))) fun s6 => (lt (ByteArray.mk (Array.mk [(84 : UInt8)])) fun s0 => (lt (g_dv (s0, ((g_dp (x0.2.1, ())).1, ()))) fun s5 => (bif (decide (x0.2.1 = (1 : Int))) then (cl (p_ch (x0.2.2.2.2.2.2, ())) (g_ch (x0.2.2.2.2.2.2, ())) fun y0 => (bif (decide (x0.2.2.1 = (0 : Int))) then (bif (decide (x0.2.2.2.2.1 = (0 : Int))) then (bif (Sh.beq S_DecDec x0.2.2.2.2.2.1 ((0 : Int), (0 : Int))) then (cl (p_dv (s0, ((g_dp (x0.2.1, ())).1, ()))) s5 fun y1 => (bif y1.1 then (bif (bif s10 then false else true) then (bif (g_cw (x0.1, ())).1 then (bif (g_c8 (x0.2.2.2.1, ())).1 then (some (y0.1, ())) else (some (false, ()))) else (some (false, ()))) else (some (false, ()))) else (bif (bif s10 then false else true) then (bif (g_cw (x0.1, ())).1 then (bif (decide (x0.2.2.2.1 = (0 : Int))) then (some (y0.1, ())) else (some (false, ()))) else (some (false, ()))) else (some (false, ()))))) else (cl (p_dv (s1, ((g_dp (x0.2.1, ())).1, ()))) s6 fun y2 => (bif y2.1 then (cl (p_dv (s0, ((g_dp (x0.2.1, ())).1, ()))) s5 fun y3 => (bif y3.1 then (bif (bif s10 then false else true) then (bif (g_cw (x0.1, ())).1 then (bif (g_ca (x0.2.2.2.2.2.1, ())).1 then (bif (g_c8 (x0.2.2.2.1, ())).1 then (some (y0.1, ())) else (some (false, ()))) else (some (false, ()))) else (some (false, ()))) else (some (false, ()))) else (bif (bif s10 then false else true) then (bif (g_cw (x0.1, ())).1 then (bif (g_ca (x0.2.2.2.2.2.1, ())).1 then (bif (decide (x0.2.2.2.1 = (0 : Int))) then (some (y0.1, ())) else (some (false, ()))) else (some (false, ()))) else (some (false, ()))) else (some (false, ()))))) else (cl (p_dv (s0, ((g_dp (x0.2.1, ())).1, ()))) s5 fun y4 => (bif y4.1 then (bif (bif s10 then false else true) then (bif (g_cw (x0.1, ())).1 then (some (false, ())) else (some (false, ()))) else (some (false, ()))) else (bif (bif s10 then false else true) then (bif (g_cw (x0.1, ())).1 then (some (false, ())) else (some (false, ()))) else (some (false, ())))))))) else (cl (p_dv (s2, ((g_dp (x0.2.1, ())).1, ()))) s7 fun y5 => (bif y5.1 then (bif (Sh.beq S_DecDec x0.2.2.2.2.2.1 ((0 : Int), (0 : Int))) then (cl (p_dv (s0, ((g_dp (x0.2.1, ())).1, ()))) s5 fun y6 => (bif y6.1 then (bif (bif s10 then false else true) then (bif (g_cw (x0.1, ())).1 then (bif s8.1 then (bif (g_c8 (x0.2.2.2.1, ())).1 then (some (y0.1, ())) else (some (false, ()))) else (some (false, ()))) else (some (false, ()))) else (some (false, ()))) else (bif (bif s10 then false else true) then (bif (g_cw (x0.1, ())).1 then (bif s8.1 then (bif (decide (x0.2.2.2.1 = (0 : Int))) then (some (y0.1, ())) else (some (false, ()))) else (some (false, ()))) else (some (false, ()))) else (some (false, ()))))) else (cl (p_dv (s1, ((g_dp (x0.2.1, ())).1, ()))) s6 fun y7 => (bif y7.1 then (cl (p_dv (s0, ((g_dp (x0.2.1, ())).1, ()))) s5 fun y8 => (bif y8.1 then (bif (bif s10 then false else true) then (bif (g_cw (x0.1, ())).1 then (bif s8.1 then (bif (g_ca (x0.2.2.2.2.2.1, ())).1 then (bif (g_c8 (x0.2.2.2.1, ())).1 then (some (y0.1, ())) else (some (false, ()))) else (some (false, ()))) else (some (false, ()))) else (some (false, ()))) else (some (false, ()))) else (bif (bif s10 then false else true) then (bif (g_cw (x0.1, ())).1 then (bif s8.1 then (bif (g_ca (x0.2.2.2.2.2.1, ())).1 then (bif (decide (x0.2.2.2.1 = (0 : Int))) then (some (y0.1, ())) else (some (false, ()))) else (some (false, ()))) else (some (false, ()))) else (some (false, ()))) else (some (false, ()))))) else (cl (p_dv (s0, ((g_dp (x0.2.1, ())).1, ()))) s5 fun y9 => (bif y9.1 then (bif (bif s10 then false else true) then (bif (g_cw (x0.1, ())).1 then (bif s8.1 then (some (false, ())) else (some (false, ()))) else (some (false, ()))) else (some (false, ()))) else (bif (bif s10 then false else true) then (bif (g_cw (x0.1, ())).1 then (bif s8.1 then (some (false, ())) else (some (false, ()))) else (some (false, ()))) else (some (false, ())))))))) else (bif (Sh.beq S_DecDec x0.2.2.2.2.2.1 ((0 : Int), (0 : Int))) then (cl (p_dv (s0, ((g_dp (x0.2.1, ())).1, ()))) s5 fun y10 => (bif y10.1 then (bif (bif s10 then false else true) then (bif (g_cw (x0.1, ())).1 then (some (false, ())) else (some (false, ()))) else (some (false, ()))) else (bif (bif s10 then false else true) then (bif (g_cw (x0.1, ())).1 then (some (false, ())) else (some (false, ()))) else (some (false, ()))))) else (cl (p_dv (s1, ((g_dp (x0.2.1, ())).1, ()))) s6 fun y11 => (bif y11.1 then (cl (p_dv (s0, ((g_dp (x0.2.1, ())).1, ()))) s5 fun y12 => (bif y12.1 then (bif (bif s10 then false else true) then (bif (g_cw (x0.1, ())).1 then (some (false, ())) else (some (false, ()))) else (some (false, ()))) else (bif (bif s10 then false else true) then (bif (g_cw (x0.1, ())).1 then (some (false, ())) else (some (false, ()))) else (some (false, ()))))) else (cl (p_dv (s0, ((g_dp (x0.2.1, ())).1, ()))) s5 fun y13 => (bif y13.1 then (bif (bif s10 then false else true) then (bif (g_cw (x0.1, ())).1 then (some (false, ())) else (some (false, ()))) else (some (false, ()))) else (bif (bif s10 then false else true) then (bif (g_cw (x0.1, ())).1 then (some (false, ())) else (some (false, ()))) else (some (false, ()))))))))))) else (cl (p_dv (s3, ((g_dp (x0.2.1, ())).1, ()))) (g_dv (s3, ((g_dp (x0.2.1, ())).1, ()))) fun y14 => (bif y14.1 then (bif (decide (x0.2.2.2.2.1 = (0 : Int))) then (bif (Sh.beq S_DecDec x0.2.2.2.2.2.1 ((0 : Int), (0 : Int))) then (cl (p_dv (s0, ((g_dp (x0.2.1, ())).1, ()))) s5 fun y15 => (bif y15.1 then (bif (bif s10 then false else true) then (bif (g_cw (x0.1, ())).1 then (bif s4.1 then (bif (g_c8 (x0.2.2.2.1, ())).1 then (some (y0.1, ())) else (some (false, ()))) else (some (false, ()))) else (some (false, ()))) else (some (false, ()))) else (bif (bif s10 then false else true) then (bif (g_cw (x0.1, ())).1 then (bif s4.1 then (bif (decide (x0.2.2.2.1 = (0 : Int))) then (some (y0.1, ())) else (some (false, ()))) else (some (false, ()))) else (some (false, ()))) else (some (false, ()))))) else (cl (p_dv (s1, ((g_dp (x0.2.1, ())).1, ()))) s6 fun y16 => (bif y16.1 then (cl (p_dv (s0, ((g_dp (x0.2.1, ())).1, ()))) s5 fun y17 => (bif y17.1 then (bif (bif s10 then false else true) then (bif (g_cw (x0.1, ())).1 then (bif s4.1 then (bif (g_ca (x0.2.2.2.2.2.1, ())).1 then (bif (g_c8 (x0.2.2.2.1, ())).1 then (some (y0.1, ())) else (some (false, ()))) else (some (false, ()))) else (some (false, ()))) else (some (false, ()))) else (some (false, ()))) else (bif (bif s10 then false else true) then (bif (g_cw (x0.1, ())).1 then (bif s4.1 then (bif (g_ca (x0.2.2.2.2.2.1, ())).1 then (bif (decide (x0.2.2.2.1 = (0 : Int))) then (some (y0.1, ())) else (some (false, ()))) else (some (false, ()))) else (some (false, ()))) else (some (false, ()))) else (some (false, ()))))) else (cl (p_dv (s0, ((g_dp (x0.2.1, ())).1, ()))) s5 fun y18 => (bif y18.1 then (bif (bif s10 then false else true) then (bif (g_cw (x0.1, ())).1 then (bif s4.1 then (some (false, ())) else (some (false, ()))) else (some (false, ()))) else (some (false, ()))) else (bif (bif s10 then false else true) then (bif (g_cw (x0.1, ())).1 then (bif s4.1 then (some (false, ())) else (some (false, ()))) else (some (false, ()))) else (some (false, ())))))))) else (cl (p_dv (s2, ((g_dp (x0.2.1, ())).1, ()))) s7 fun y19 => (bif y19.1 then (bif (Sh.beq S_DecDec x0.2.2.2.2.2.1 ((0 : Int), (0 : Int))) then (cl (p_dv (s0, ((g_dp (x0.2.1, ())).1, ()))) s5 fun y20 => (bif y20.1 then (bif (bif s10 then false else true) then (bif (g_cw (x0.1, ())).1 then (bif s4.1 then (bif s8.1 then (bif (g_c8 (x0.2.2.2.1, ())).1 then (some (y0.1, ())) else (some (false, ()))) else (some (false, ()))) else (some (false, ()))) else (some (false, ()))) else (some (false, ()))) else (bif (bif s10 then false else true) then (bif (g_cw (x0.1, ())).1 then (bif s4.1 then (bif s8.1 then (bif (decide (x0.2.2.2.1 = (0 : Int))) then (some (y0.1, ())) else (some (false, ()))) else (some (false, ()))) else (some (false, ()))) else (some (false, ()))) else (some (false, ()))))) else (cl (p_dv (s1, ((g_dp (x0.2.1, ())).1, ()))) s6 fun y21 => (bif y21.1 then (cl (p_dv (s0, ((g_dp (x0.2.1, ())).1, ()))) s5 fun y22 => (bif y22.1 then (bif (bif s10 then false else true) then (bif (g_cw (x0.1, ())).1 then (bif s4.1 then (bif s8.1 then (bif (g_ca (x0.2.2.2.2.2.1, ())).1 then (bif (g_c8 (x0.2.2.2.1, ())).1 then (some (y0.1, ())) else (some (false, ()))) else (some (false, ()))) else (some (false, ()))) else (some (false, ()))) else (some (false, ()))) else (some (false, ()))) else (bif (bif s10 then false else true) then (bif (g_cw (x0.1, ())).1 then (bif s4.1 then (bif s8.1 then (bif (g_ca (x0.2.2.2.2.2.1, ())).1 then (bif (decide (x0.2.2.2.1 = (0 : Int))) then (some (y0.1, ())) else (some (false, ()))) else (some (false, ()))) else (some (false, ()))) else (some (false, ()))) else (some (false, ()))) else (some (false, ()))))) else (cl (p_dv (s0, ((g_dp (x0.2.1, ())).1, ()))) s5 fun y23 => (bif y23.1 then (bif (bif s10 then false else true) then (bif (g_cw (x0.1, ())).1 then (bif s4.1 then (bif s8.1 then (some (false, ())) else (some (false, ()))) else (some (false, ()))) else (some (false, ()))) else (some (false, ()))) else (bif (bif s10 then false else true) then (bif (g_cw (x0.1, ())).1 then (bif s4.1 then (bif s8.1 then (some (false, ())) else (some (false, ()))) else (some (false, ()))) else (some (false, ()))) else (some (false, ())))))))) else (bif (Sh.beq S_DecDec x0.2.2.2.2.2.1 ((0 : Int), (0 : Int))) then (cl (p_dv (s0, ((g_dp (x0.2.1, ())).1, ()))) s5 fun y24 => (bif y24.1 then (bif (bif s10 then false else true) then (bif (g_cw (x0.1, ())).1 then (bif s4.1 then (some (false, ())) else (some (false, ()))) else (some (false, ()))) else (some (false, ()))) else (bif (bif s10 then false else true) then (bif (g_cw (x0.1, ())).1 then (bif s4.1 then (some (false, ())) else (some (false, ()))) else (some (false, ()))) else (some (false, ()))))) else (cl (p_dv (s1, ((g_dp (x0.2.1, ())).1, ()))) s6 fun y25 => (bif y25.1 then (cl (p_dv (s0, ((g_dp (x0.2.1, ())).1, ()))) s5 fun y26 => (bif y26.1 then (bif (bif s10 then false else true) then (bif (g_cw (x0.1, ())).1 then (bif s4.1 then (some (false, ())) else (some (false, ()))) else (some (false, ()))) else (some (false, ()))) else (bif (bif s10 then false else true) then (bif (g_cw (x0.1, ())).1 then (bif s4.1 then (some (false, ())) else (some (false, ()))) else (some (false, ()))) else (some (false, ()))))) else (cl (p_dv (s0, ((g_dp (x0.2.1, ())).1, ()))) s5 fun y27 => (bif y27.1 then (bif (bif s10 then false else true) then (bif (g_cw (x0.1, ())).1 then (bif s4.1 then (some (false, ())) else (some (false, ()))) else (some (false, ()))) else (some (false, ()))) else (bif (bif s10 then false else true) then (bif (g_cw (x0.1, ())).1 then (bif s4.1 then (some (false, ())) else (some (false, ()))) else (some (false, ()))) else (some (false, ()))))))))))) else (bif (decide (x0.2.2.2.2.1 = (0 : Int))) then (bif (Sh.beq S_DecDec x0.2.2.2.2.2.1 ((0 : Int), (0 : Int))) then (cl (p_dv (s0, ((g_dp (x0.2.1, ())).1, ()))) s5 fun y28 => (bif y28.1 then (bif (bif s10 then false else true) then (bif (g_cw (x0.1, ())).1 then (some (false, ())) else (some (false, ()))) else (some (false, ()))) else (bif (bif s10 then false else true) then (bif (g_cw (x0.1, ())).1 then (some (false, ())) else (some (false, ()))) else (some (false, ()))))) else (cl (p_dv (s1, ((g_dp (x0.2.1, ())).1, ()))) s6 fun y29 => (bif y29.1 then (cl (p_dv (s0, ((g_dp (x0.2.1, ())).1, ()))) s5 fun y30 => (bif y30.1 then (bif (bif s10 then false else true) then (bif (g_cw (x0.1, ())).1 then (some (false, ())) else (some (false, ()))) else (some (false, ()))) else (bif (bif s10 then false else true) then (bif (g_cw (x0.1, ())).1 then (some (false, ())) else (some (false, ()))) else (some (false, ()))))) else (cl (p_dv (s0, ((g_dp (x0.2.1, ())).1, ()))) s5 fun y31 => (bif y31.1 then (bif (bif s10 then false else true) then (bif (g_cw (x0.1, ())).1 then (some (false, ())) else (some (false, ()))) else (some (false, ()))) else (bif (bif s10 then false else true) then (bif (g_cw (x0.1, ())).1 then (some (false, ())) else (some (false, ()))) else (some (false, ())))))))) else (cl (p_dv (s2, ((g_dp (x0.2.1, ())).1, ()))) s7 fun y32 => (bif y32.1 then (bif (Sh.beq S_DecDec x0.2.2.2.2.2.1 ((0 : Int), (0 : Int))) then (cl (p_dv (s0, ((g_dp (x0.2.1, ())).1, ()))) s5 fun y33 => (bif y33.1 then (bif (bif s10 then false else true) then (bif (g_cw (x0.1, ())).1 then (some (false, ())) else (some (false, ()))) else (some (false, ()))) else (bif (bif s10 then false else true) then (bif (g_cw (x0.1, ())).1 then (some (false, ())) else (some (false, ()))) else (some (false, ()))))) else (cl (p_dv (s1, ((g_dp (x0.2.1, ())).1, ()))) s6 fun y34 => (bif y34.1 then (cl (p_dv (s0, ((g_dp (x0.2.1, ())).1, ()))) s5 fun y35 => (bif y35.1 then (bif (bif s10 then false else true) then (bif (g_cw (x0.1, ())).1 then (some (false, ())) else (some (false, ()))) else (some (false, ()))) else (bif (bif s10 then false else true) then (bif (g_cw (x0.1, ())).1 then (some (false, ())) else (some (false, ()))) else (some (false, ()))))) else (cl (p_dv (s0, ((g_dp (x0.2.1, ())).1, ()))) s5 fun y36 => (bif y36.1 then (bif (bif s10 then false else true) then (bif (g_cw (x0.1, ())).1 then (some (false, ())) else (some (false, ()))) else (some (false, ()))) else (bif (bif s10 then false else true) then (bif (g_cw (x0.1, ())).1 then (some (false, ())) else (some (false, ()))) else (some (false, ())))))))) else (bif (Sh.beq S_DecDec x0.2.2.2.2.2.1 ((0 : Int), (0 : Int))) then (cl (p_dv (s0, ((g_dp (x0.2.1, ())).1, ()))) s5 fun y37 => (bif y37.1 then (bif (bif s10 then false else true) then (bif (g_cw (x0.1, ())).1 then (some (false, ())) else (some (false, ()))) else (some (false, ()))) else (bif (bif s10 then false else true) then (bif (g_cw (x0.1, ())).1 then (some (false, ())) else (some (false, ()))) else (some (false, ()))))) else (cl (p_dv (s1, ((g_dp (x0.2.1, ())).1, ()))) s6 fun y38 => (bif y38.1 then (cl (p_dv (s0, ((g_dp (x0.2.1, ())).1, ()))) s5 fun y39 => (bif y39.1 then (bif (bif s10 then false else true) then (bif (g_cw (x0.1, ())).1 then (some (false, ())) else (some (false, ()))) else (some (false, ()))) else (bif (bif s10 then false else true) then (bif (g_cw (x0.1, ())).1 then (some (false, ())) else (some (false, ()))) else (some (false, ()))))) else (cl (p_dv (s0, ((g_dp (x0.2.1, ())).1, ()))) s5 fun y40 => (bif y40.1 then (bif (bif s10 then false else true) then (bif (g_cw (x0.1, ())).1 then (some (false, ())) else (some (false, ()))) else (some (false, ()))) else (bif (bif s10 then false else true) then (bif (g_cw (x0.1, ())).1 then (some (false, ())) else (some (false, ()))) else (some (false, ()))))))))))))))) else (bif (decide (x0.2.2.1 = (0 : Int))) then (bif (decide (x0.2.2.2.2.1 = (0 : Int))) then (bif (Sh.beq S_DecDec x0.2.2.2.2.2.1 ((0 : Int), (0 : Int))) then (cl (p_dv (s0, ((g_dp (x0.2.1, ())).1, ()))) s5 fun y41 => (bif y41.1 then (bif (bif s10 then false else true) then (bif (g_cw (x0.1, ())).1 then (bif (g_c8 (x0.2.2.2.1, ())).1 then (some (s9, ())) else (some (false, ()))) else (some (false, ()))) else (some (false, ()))) else (bif (bif s10 then false else true) then (bif (g_cw (x0.1, ())).1 then (bif (decide (x0.2.2.2.1 = (0 : Int))) then (some (s9, ())) else (some (false, ()))) else (some (false, ()))) else (some (false, ()))))) else (cl (p_dv (s1, ((g_dp (x0.2.1, ())).1, ()))) s6 fun y42 => (bif y42.1 then (cl (p_dv (s0, ((g_dp (x0.2.1, ())).1, ()))) s5 fun y43 => (bif y43.1 then (bif (bif s10 then false else true) then (bif (g_cw (x0.1, ())).1 then (bif (g_ca (x0.2.2.2.2.2.1, ())).1 then (bif (g_c8 (x0.2.2.2.1, ())).1 then (some (s9, ())) else (some (false, ()))) else (some (false, ()))) else (some (false, ()))) else (some (false, ()))) else (bif (bif s10 then false else true) then (bif (g_cw (x0.1, ())).1 then (bif (g_ca (x0.2.2.2.2.2.1, ())).1 then (bif (decide (x0.2.2.2.1 = (0 : Int))) then (some (s9, ())) else (some (false, ()))) else (some (false, ()))) else (some (false, ()))) else (some (false, ()))))) else (cl (p_dv (s0, ((g_dp (x0.2.1, ())).1, ()))) s5 fun y44 => (bif y44.1 then (bif (bif s10 then false else true) then (bif (g_cw (x0.1, ())).1 then (some (false, ())) else (some (false, ()))) else (some (false, ()))) else (bif (bif s10 then false else true) then (bif (g_cw (x0.1, ())).1 then (some (false, ())) else (some (false, ()))) else (some (false, ())))))))) else (cl (p_dv (s2, ((g_dp (x0.2.1, ())).1, ()))) s7 fun y45 => (bif y45.1 then (bif (Sh.beq S_DecDec x0.2.2.2.2.2.1 ((0 : Int), (0 : Int))) then (cl (p_dv (s0, ((g_dp (x0.2.1, ())).1, ()))) s5 fun y46 => (bif y46.1 then (bif (bif s10 then false else true) then (bif (g_cw (x0.1, ())).1 then (bif s8.1 then (bif (g_c8 (x0.2.2.2.1, ())).1 then (some (s9, ())) else (some (false, ()))) else (some (false, ()))) else (some (false, ()))) else (some (false, ()))) else (bif (bif s10 then false else true) then (bif (g_cw (x0.1, ())).1 then (bif s8.1 then (bif (decide (x0.2.2.2.1 = (0 : Int))) then (some (s9, ())) else (some (false, ()))) else (some (false, ()))) else (some (false, ()))) else (some (false, ()))))) else (cl (p_dv (s1, ((g_dp (x0.2.1, ())).1, ()))) s6 fun y47 => (bif y47.1 then (cl (p_dv (s0, ((g_dp (x0.2.1, ())).1, ()))) s5 fun y48 => (bif y48.1 then (bif (bif s10 then false else true) then (bif (g_cw (x0.1, ())).1 then (bif s8.1 then (bif (g_ca (x0.2.2.2.2.2.1, ())).1 then (bif (g_c8 (x0.2.2.2.1, ())).1 then (some (s9, ())) else (some (false, ()))) else (some (false, ()))) else (some (false, ()))) else (some (false, ()))) else (some (false, ()))) else (bif (bif s10 then false else true) then (bif (g_cw (x0.1, ())).1 then (bif s8.1 then (bif (g_ca (x0.2.2.2.2.2.1, ())).1 then (bif (decide (x0.2.2.2.1 = (0 : Int))) then (some (s9, ())) else (some (false, ()))) else (some (false, ()))) else (some (false, ()))) else (some (false, ()))) else (some (false, ()))))) else (cl (p_dv (s0, ((g_dp (x0.2.1, ())).1, ()))) s5 fun y49 => (bif y49.1 then (bif (bif s10 then false else true) then (bif (g_cw (x0.1, ())).1 then (bif s8.1 then (some (false, ())) else (some (false, ()))) else (some (false, ()))) else (some (false, ()))) else (bif (bif s10 then false else true) then (bif (g_cw (x0.1, ())).1 then (bif s8.1 then (some (false, ())) else (some (false, ()))) else (some (false, ()))) else (some (false, ())))))))) else (bif (Sh.beq S_DecDec x0.2.2.2.2.2.1 ((0 : Int), (0 : Int))) then (cl (p_dv (s0, ((g_dp (x0.2.1, ())).1, ()))) s5 fun y50 => (bif y50.1 then (bif (bif s10 then false else true) then (bif (g_cw (x0.1, ())).1 then (some (false, ())) else (some (false, ()))) else (some (false, ()))) else (bif (bif s10 then false else true) then (bif (g_cw (x0.1, ())).1 then (some (false, ())) else (some (false, ()))) else (some (false, ()))))) else (cl (p_dv (s1, ((g_dp (x0.2.1, ())).1, ()))) s6 fun y51 => (bif y51.1 then (cl (p_dv (s0, ((g_dp (x0.2.1, ())).1, ()))) s5 fun y52 => (bif y52.1 then (bif (bif s10 then false else true) then (bif (g_cw (x0.1, ())).1 then (some (false, ())) else (some (false, ()))) else (some (false, ()))) else (bif (bif s10 then false else true) then (bif (g_cw (x0.1, ())).1 then (some (false, ())) else (some (false, ()))) else (some (false, ()))))) else (cl (p_dv (s0, ((g_dp (x0.2.1, ())).1, ()))) s5 fun y53 => (bif y53.1 then (bif (bif s10 then false else true) then (bif (g_cw (x0.1, ())).1 then (some (false, ())) else (some (false, ()))) else (some (false, ()))) else (bif (bif s10 then false else true) then (bif (g_cw (x0.1, ())).1 then (some (false, ())) else (some (false, ()))) else (some (false, ()))))))))))) else (cl (p_dv (s3, ((g_dp (x0.2.1, ())).1, ()))) (g_dv (s3, ((g_dp (x0.2.1, ())).1, ()))) fun y54 => (bif y54.1 then (bif (decide (x0.2.2.2.2.1 = (0 : Int))) then (bif (Sh.beq S_DecDec x0.2.2.2.2.2.1 ((0 : Int), (0 : Int))) then (cl (p_dv (s0, ((g_dp (x0.2.1, ())).1, ()))) s5 fun y55 => (bif y55.1 then (bif (bif s10 then false else true) then (bif (g_cw (x0.1, ())).1 then (bif s4.1 then (bif (g_c8 (x0.2.2.2.1, ())).1 then (some (s9, ())) else (some (false, ()))) else (some (false, ()))) else (some (false, ()))) else (some (false, ()))) else (bif (bif s10 then false else true) then (bif (g_cw (x0.1, ())).1 then (bif s4.1 then (bif (decide (x0.2.2.2.1 = (0 : Int))) then (some (s9, ())) else (some (false, ()))) else (some (false, ()))) else (some (false, ()))) else (some (false, ()))))) else (cl (p_dv (s1, ((g_dp (x0.2.1, ())).1, ()))) s6 fun y56 => (bif y56.1 then (cl (p_dv (s0, ((g_dp (x0.2.1, ())).1, ()))) s5 fun y57 => (bif y57.1 then (bif (bif s10 then false else true) then (bif (g_cw (x0.1, ())).1 then (bif s4.1 then (bif (g_ca (x0.2.2.2.2.2.1, ())).1 then (bif (g_c8 (x0.2.2.2.1, ())).1 then (some (s9, ())) else (some (false, ()))) else (some (false, ()))) else (some (false, ()))) else (some (false, ()))) else (some (false, ()))) else (bif (bif s10 then false else true) then (bif (g_cw (x0.1, ())).1 then (bif s4.1 then (bif (g_ca (x0.2.2.2.2.2.1, ())).1 then (bif (decide (x0.2.2.2.1 = (0 : Int))) then (some (s9, ())) else (some (false, ()))) else (some (false, ()))) else (some (false, ()))) else (some (false, ()))) else (some (false, ()))))) else (cl (p_dv (s0, ((g_dp (x0.2.1, ())).1, ()))) s5 fun y58 => (bif y58.1 then (bif (bif s10 then false else true) then (bif (g_cw (x0.1, ())).1 then (bif s4.1 then (some (false, ())) else (some (false, ()))) else (some (false, ()))) else (some (false, ()))) else (bif (bif s10 then false else true) then (bif (g_cw (x0.1, ())).1 then (bif s4.1 then (some (false, ())) else (some (false, ()))) else (some (false, ()))) else (some (false, ())))))))) else (cl (p_dv (s2, ((g_dp (x0.2.1, ())).1, ()))) s7 fun y59 => (bif y59.1 then (bif (Sh.beq S_DecDec x0.2.2.2.2.2.1 ((0 : Int), (0 : Int))) then (cl (p_dv (s0, ((g_dp (x0.2.1, ())).1, ()))) s5 fun y60 => (bif y60.1 then (bif (bif s10 then false else true) then (bif (g_cw (x0.1, ())).1 then (bif s4.1 then (bif s8.1 then (bif (g_c8 (x0.2.2.2.1, ())).1 then (some (s9, ())) else (some (false, ()))) else (some (false, ()))) else (some (false, ()))) else (some (false, ()))) else (some (false, ()))) else (bif (bif s10 then false else true) then (bif (g_cw (x0.1, ())).1 then (bif s4.1 then (bif s8.1 then (bif (decide (x0.2.2.2.1 = (0 : Int))) then (some (s9, ())) else (some (false, ()))) else (some (false, ()))) else (some (false, ()))) else (some (false, ()))) else (some (false, ()))))) else (cl (p_dv (s1, ((g_dp (x0.2.1, ())).1, ()))) s6 fun y61 => (bif y61.1 then (cl (p_dv (s0, ((g_dp (x0.2.1, ())).1, ()))) s5 fun y62 => (bif y62.1 then (bif (bif s10 then false else true) then (bif (g_cw (x0.1, ())).1 then (bif s4.1 then (bif s8.1 then (bif (g_ca (x0.2.2.2.2.2.1, ())).1 then (bif (g_c8 (x0.2.2.2.1, ())).1 then (some (s9, ())) else (some (false, ()))) else (some (false, ()))) else (some (false, ()))) else (some (false, ()))) else (some (false, ()))) else (some (false, ()))) else (bif (bif s10 then false else true) then (bif (g_cw (x0.1, ())).1 then (bif s4.1 then (bif s8.1 then (bif (g_ca (x0.2.2.2.2.2.1, ())).1 then (bif (decide (x0.2.2.2.1 = (0 : Int))) then (some (s9, ())) else (some (false, ()))) else (some (false, ()))) else (some (false, ()))) else (some (false, ()))) else (some (false, ()))) else (some (false, ()))))) else (cl (p_dv (s0, ((g_dp (x0.2.1, ())).1, ()))) s5 fun y63 => (bif y63.1 then (bif (bif s10 then false else true) then (bif (g_cw (x0.1, ())).1 then (bif s4.1 then (bif s8.1 then (some (false, ())) else (some (false, ()))) else (some (false, ()))) else (some (false, ()))) else (some (false, ()))) else (bif (bif s10 then false else true) then (bif (g_cw (x0.1, ())).1 then (bif s4.1 then (bif s8.1 then (some (false, ())) else (some (false, ()))) else (some (false, ()))) else (some (false, ()))) else (some (false, ())))))))) else (bif (Sh.beq S_DecDec x0.2.2.2.2.2.1 ((0 : Int), (0 : Int))) then (cl (p_dv (s0, ((g_dp (x0.2.1, ())).1, ()))) s5 fun y64 => (bif y64.1 then (bif (bif s10 then false else true) then (bif (g_cw (x0.1, ())).1 then (bif s4.1 then (some (false, ())) else (some (false, ()))) else (some (false, ()))) else (some (false, ()))) else (bif (bif s10 then false else true) then (bif (g_cw (x0.1, ())).1 then (bif s4.1 then (some (false, ())) else (some (false, ()))) else (some (false, ()))) else (some (false, ()))))) else (cl (p_dv (s1, ((g_dp (x0.2.1, ())).1, ()))) s6 fun y65 => (bif y65.1 then (cl (p_dv (s0, ((g_dp (x0.2.1, ())).1, ()))) s5 fun y66 => (bif y66.1 then (bif (bif s10 then false else true) then (bif (g_cw (x0.1, ())).1 then (bif s4.1 then (some (false, ())) else (some (false, ()))) else (some (false, ()))) else (some (false, ()))) else (bif (bif s10 then false else true) then (bif (g_cw (x0.1, ())).1 then (bif s4.1 then (some (false, ())) else (some (false, ()))) else (some (false, ()))) else (some (false, ()))))) else (cl (p_dv (s0, ((g_dp (x0.2.1, ())).1, ()))) s5 fun y67 => (bif y67.1 then (bif (bif s10 then false else true) then (bif (g_cw (x0.1, ())).1 then (bif s4.1 then (some (false, ())) else (some (false, ()))) else (some (false, ()))) else (some (false, ()))) else (bif (bif s10 then false else true) then (bif (g_cw (x0.1, ())).1 then (bif s4.1 then (some (false, ())) else (some (false, ()))) else (some (false, ()))) else (some (false, ()))))))))))) else (bif (decide (x0.2.2.2.2.1 = (0 : Int))) then (bif (Sh.beq S_DecDec x0.2.2.2.2.2.1 ((0 : Int), (0 : Int))) then (cl (p_dv (s0, ((g_dp (x0.2.1, ())).1, ()))) s5 fun y68 => (bif y68.1 then (bif (bif s10 then false else true) then (bif (g_cw (x0.1, ())).1 then (some (false, ())) else (some (false, ()))) else (some (false, ()))) else (bif (bif s10 then false else true) then (bif (g_cw (x0.1, ())).1 then (some (false, ())) else (some (false, ()))) else (some (false, ()))))) else (cl (p_dv (s1, ((g_dp (x0.2.1, ())).1, ()))) s6 fun y69 => (bif y69.1 then (cl (p_dv (s0, ((g_dp (x0.2.1, ())).1, ()))) s5 fun y70 => (bif y70.1 then (bif (bif s10 then false else true) then (bif (g_cw (x0.1, ())).1 then (some (false, ())) else (some (false, ()))) else (some (false, ()))) else (bif (bif s10 then false else true) then (bif (g_cw (x0.1, ())).1 then (some (false, ())) else (some (false, ()))) else (some (false, ()))))) else (cl (p_dv (s0, ((g_dp (x0.2.1, ())).1, ()))) s5 fun y71 => (bif y71.1 then (bif (bif s10 then false else true) then (bif (g_cw (x0.1, ())).1 then (some (false, ())) else (some (false, ()))) else (some (false, ()))) else (bif (bif s10 then false else true) then (bif (g_cw (x0.1, ())).1 then (some (false, ())) else (some (false, ()))) else (some (false, ())))))))) else (cl (p_dv (s2, ((g_dp (x0.2.1, ())).1, ()))) s7 fun y72 => (bif y72.1 then (bif (Sh.beq S_DecDec x0.2.2.2.2.2.1 ((0 : Int), (0 : Int))) then (cl (p_dv (s0, ((g_dp (x0.2.1, ())).1, ()))) s5 fun y73 => (bif y73.1 then (bif (bif s10 then false else true) then (bif (g_cw (x0.1, ())).1 then (some (false, ())) else (some (false, ()))) else (some (false, ()))) else (bif (bif s10 then false else true) then (bif (g_cw (x0.1, ())).1 then (some (false, ())) else (some (false, ()))) else (some (false, ()))))) else (cl (p_dv (s1, ((g_dp (x0.2.1, ())).1, ()))) s6 fun y74 => (bif y74.1 then (cl (p_dv (s0, ((g_dp (x0.2.1, ())).1, ()))) s5 fun y75 => (bif y75.1 then (bif (bif s10 then false else true) then (bif (g_cw (x0.1, ())).1 then (some (false, ())) else (some (false, ()))) else (some (false, ()))) else (bif (bif s10 then false else true) then (bif (g_cw (x0.1, ())).1 then (some (false, ())) else (some (false, ()))) else (some (false, ()))))) else (cl (p_dv (s0, ((g_dp (x0.2.1, ())).1, ()))) s5 fun y76 => (bif y76.1 then (bif (bif s10 then false else true) then (bif (g_cw (x0.1, ())).1 then (some (false, ())) else (some (false, ()))) else (some (false, ()))) else (bif (bif s10 then false else true) then (bif (g_cw (x0.1, ())).1 then (some (false, ())) else (some (false, ()))) else (some (false, ())))))))) else (bif (Sh.beq S_DecDec x0.2.2.2.2.2.1 ((0 : Int), (0 : Int))) then (cl (p_dv (s0, ((g_dp (x0.2.1, ())).1, ()))) s5 fun y77 => (bif y77.1 then (bif (bif s10 then false else true) then (bif (g_cw (x0.1, ())).1 then (some (false, ())) else (some (false, ()))) else (some (false, ()))) else (bif (bif s10 then false else true) then (bif (g_cw (x0.1, ())).1 then (some (false, ())) else (some (false, ()))) else (some (false, ()))))) else (cl (p_dv (s1, ((g_dp (x0.2.1, ())).1, ()))) s6 fun y78 => (bif y78.1 then (cl (p_dv (s0, ((g_dp (x0.2.1, ())).1, ()))) s5 fun y79 => (bif y79.1 then (bif (bif s10 then false else true) then (bif (g_cw (x0.1, ())).1 then (some (false, ())) else (some (false, ()))) else (some (false, ()))) else (bif (bif s10 then false else true) then (bif (g_cw (x0.1, ())).1 then (some (false, ())) else (some (false, ()))) else (some (false, ()))))) else (cl (p_dv (s0, ((g_dp (x0.2.1, ())).1, ()))) s5 fun y80 => (bif y80.1 then (bif (bif s10 then false else true) then (bif (g_cw (x0.1, ())).1 then (some (false, ())) else (some (false, ()))) else (some (false, ()))) else (bif (bif s10 then false else true) then (bif (g_cw (x0.1, ())).1 then (some (false, ())) else (some (false, ()))) else (some (false, ())))))))))))))))))))))))))) := by kernel_rfl
theorem S_dw (h_dp : C_dp (fun _ => true) g_dp) (h_ch : C_ch p_ch g_ch) (h_dv : C_dv p_dv g_dv) (h_iin : C_iin (fun _ => true) g_iin) (h_ca : C_ca (fun _ => true) g_ca) (h_c8 : C_c8 (fun _ => true) g_c8) (h_cw : C_cw (fun _ => true) g_cw) {pre fn} (hev : Hq (E_dw g_dp g_ch p_ch g_dv p_dv g_iin g_ca g_c8 g_cw) pre fn) : C_dw pre fn := sound tysOk mixed (fn := Tryz.f24) rfl rfl rfl (.cons h_dp (.cons h_ch (.cons h_dv (.cons h_iin (.cons h_ca (.cons h_c8 (.cons h_cw .nil))))))) _ hev
end
abbrev M_dx : Lm := [.imm L_int]
abbrev R_dx : Lr := [(.own, L_int)]
abbrev In_dx := Iq M_dx
abbrev Out_dx := Oq R_dx M_dx
abbrev C_dx := Cq 125 M_dx R_dx
abbrev X_dx : Ctx := ctx tys 8 (conOf []) (keepOf []) nF
abbrev E_dx := evFn X_dx Tryz.f125 R_dx M_dx
theorem ev_dx (k : Nat) (x0 : Dm (.imm L_int)) : E_dx k (x0, ()) =
 (bif (List.isEmpty x0) then (agree (some ([], ())) (bif (fitL [] x0) then (some ((List.append [] x0), ())) else none)) else (bif (fitL [] x0) then (some ((List.append [] x0), ())) else none)) := by kernel_rfl
theorem S_dx  {pre fn} (hev : Hq E_dx pre fn) : C_dx pre fn := sound tysOk mixed (fn := Tryz.f125) rfl rfl rfl ConsOk.nil _ hev
abbrev M_dy : Lm := [.imm L_SpcTest]
abbrev R_dy : Lr := [(.own, L_SpcTest)]
abbrev In_dy := Iq M_dy
abbrev Out_dy := Oq R_dy M_dy
abbrev C_dy := Cq 182 M_dy R_dy
abbrev X_dy : Ctx := ctx tys 8 (conOf []) (keepOf []) nF
abbrev E_dy := evFn X_dy Tryz.f182 R_dy M_dy
theorem ev_dy (k : Nat) (x0 : Dm (.imm L_SpcTest)) : E_dy k (x0, ()) =
 (bif (List.isEmpty x0) then (agree (some ([], ())) (bif (fitL [] x0) then (some ((List.append [] x0), ())) else none)) else (bif (fitL [] x0) then (some ((List.append [] x0), ())) else none)) := by kernel_rfl
theorem S_dy  {pre fn} (hev : Hq E_dy pre fn) : C_dy pre fn := sound tysOk mixed (fn := Tryz.f182) rfl rfl rfl ConsOk.nil _ hev
abbrev M_dz : Lm := [.imm L_SpcSpec]
abbrev R_dz : Lr := [(.own, L_SpcSpec)]
abbrev In_dz := Iq M_dz
abbrev Out_dz := Oq R_dz M_dz
abbrev C_dz := Cq 126 M_dz R_dz
section
variable (g_dy : In_dy -> Out_dy) (p_dy : In_dy -> Bool)
abbrev X_dz : Ctx := ctx tys 23 (conOf [(182, ⟨M_dy, R_dy, p_dy, g_dy⟩)]) (keepOf [(pt0, (⟨[(3, .own), (6, .asis), (7, .asis), (8, .asis)], [], []⟩ : Keep))]) nF
abbrev E_dz := evFn (X_dz g_dy p_dy) Tryz.f126 R_dz M_dz
def h0_dz (x0 : Dm (.imm L_SpcSpec)) (h0 : Dn I) (h1 : Dn I) (h2 : (List (Dn S_SpcSpec))) : St := mkS [(3, (AV.sref 2503 none [])), (6, (AV.val L_SpcSpec x0)), (7, (AV.val I h0)), (8, (AV.val I h1))] [(2503, (Ob.arr 83 S_SpcSpec h2))]
def r_dz := rounds (X_dz g_dy p_dy) Tryz.f126 R_dz M_dz
variable {g_dy p_dy}
theorem ev_dz (k : Nat) (x0 : Dm (.imm L_SpcSpec)) : E_dz g_dy p_dy k (x0, ()) =
 (r_dz g_dy p_dy (x0, ()) k pt0 (h0_dz x0 (List.length x0 : Int) (0 : Int) [])) := by kernel_rfl
theorem rd0_dz (k : Nat) (x0 : Dm (.imm L_SpcSpec)) (h0 : Dn I) (h1 : Dn I) (h2 : (List (Dn S_SpcSpec))) : r_dz g_dy p_dy (x0, ()) (k + 1) pt0 (h0_dz x0 h0 h1 h2) =
 (bif (decide (h1 < h0)) then (bif (bif (decide ((0 : Int) <= h1)) then (decide (h1 < (List.length x0 : Int))) else false) then (bif (p_dy ((rdL (e := S_SpcSpec) x0 h1).1, ())) then (bif (fitL h2 [((g_dy ((rdL (e := S_SpcSpec) x0 h1).1, ())).1, (rdL (e := S_SpcSpec) x0 h1).2)]) then (r_dz g_dy p_dy (x0, ()) k pt0 (h0_dz x0 h0 (w64 (h1 + (1 : Int))) (List.append h2 [((g_dy ((rdL (e := S_SpcSpec) x0 h1).1, ())).1, (rdL (e := S_SpcSpec) x0 h1).2)]))) else none) else none) else none) else (some (h2, ()))) := by kernel_rfl
theorem S_dz (h_dy : C_dy p_dy g_dy) {pre fn} (hev : Hq (E_dz g_dy p_dy) pre fn) : C_dz pre fn := sound tysOk mixed (fn := Tryz.f126) rfl rfl rfl (.cons h_dy .nil) _ hev
end
abbrev M_e0 : Lm := [.imm L_DecDec]
abbrev R_e0 : Lr := [(.own, L_DecDec)]
abbrev In_e0 := Iq M_e0
abbrev Out_e0 := Oq R_e0 M_e0
abbrev C_e0 := Cq 198 M_e0 R_e0
abbrev X_e0 : Ctx := ctx tys 8 (conOf []) (keepOf []) nF
abbrev E_e0 := evFn X_e0 Tryz.f198 R_e0 M_e0
theorem ev_e0 (k : Nat) (x0 : Dm (.imm L_DecDec)) : E_e0 k (x0, ()) =
 (bif (List.isEmpty x0) then (agree (some ([], ())) (bif (fitL [] x0) then (some ((List.append [] x0), ())) else none)) else (bif (fitL [] x0) then (some ((List.append [] x0), ())) else none)) := by kernel_rfl
theorem S_e0  {pre fn} (hev : Hq E_e0 pre fn) : C_e0 pre fn := sound tysOk mixed (fn := Tryz.f198) rfl rfl rfl ConsOk.nil _ hev
abbrev M_e1 : Lm := [.imm S_TstTest]
abbrev R_e1 : Lr := [(.own, S_TstTest)]
abbrev In_e1 := Iq M_e1
abbrev Out_e1 := Oq R_e1 M_e1
abbrev C_e1 := Cq 163 M_e1 R_e1
section
variable (g_e0 : In_e0 -> Out_e0) (p_e0 : In_e0 -> Bool)
abbrev X_e1 : Ctx := ctx tys 8 (conOf [(198, ⟨M_e0, R_e0, p_e0, g_e0⟩)]) (keepOf []) nF
abbrev E_e1 := evFn (X_e1 g_e0 p_e0) Tryz.f163 R_e1 M_e1
variable {g_e0 p_e0}
theorem ev_e1 (k : Nat) (x0 : Dm (.imm S_TstTest)) : E_e1 g_e0 p_e0 k (x0, ()) =
 (cl (p_e0 (x0.2.2.2.2, ())) (g_e0 (x0.2.2.2.2, ())) fun y0 => (some ((x0.1, (x0.2.1, (x0.2.2.1, (x0.2.2.2.1, y0.1)))), ()))) := by kernel_rfl
theorem S_e1 (h_e0 : C_e0 p_e0 g_e0) {pre fn} (hev : Hq (E_e1 g_e0 p_e0) pre fn) : C_e1 pre fn := sound tysOk mixed (fn := Tryz.f163) rfl rfl rfl (.cons h_e0 .nil) _ hev
end
abbrev M_e2 : Lm := [.imm L_BatSig]
abbrev R_e2 : Lr := [(.own, L_BatSig)]
abbrev In_e2 := Iq M_e2
abbrev Out_e2 := Oq R_e2 M_e2
abbrev C_e2 := Cq 164 M_e2 R_e2
abbrev X_e2 : Ctx := ctx tys 8 (conOf []) (keepOf []) nF
abbrev E_e2 := evFn X_e2 Tryz.f164 R_e2 M_e2
theorem ev_e2 (k : Nat) (x0 : Dm (.imm L_BatSig)) : E_e2 k (x0, ()) =
 (bif (List.isEmpty x0) then (agree (some ([], ())) (bif (fitL [] x0) then (some ((List.append [] x0), ())) else none)) else (bif (fitL [] x0) then (some ((List.append [] x0), ())) else none)) := by kernel_rfl
theorem S_e2  {pre fn} (hev : Hq E_e2 pre fn) : C_e2 pre fn := sound tysOk mixed (fn := Tryz.f164) rfl rfl rfl ConsOk.nil _ hev
abbrev M_e3 : Lm := [.imm L_bool]
abbrev R_e3 : Lr := [(.own, L_bool)]
abbrev In_e3 := Iq M_e3
abbrev Out_e3 := Oq R_e3 M_e3
abbrev C_e3 := Cq 165 M_e3 R_e3
abbrev X_e3 : Ctx := ctx tys 8 (conOf []) (keepOf []) nF
abbrev E_e3 := evFn X_e3 Tryz.f165 R_e3 M_e3
theorem ev_e3 (k : Nat) (x0 : Dm (.imm L_bool)) : E_e3 k (x0, ()) =
 (bif (List.isEmpty x0) then (agree (some ([], ())) (bif (fitL [] x0) then (some ((List.append [] x0), ())) else none)) else (bif (fitL [] x0) then (some ((List.append [] x0), ())) else none)) := by kernel_rfl
theorem S_e3  {pre fn} (hev : Hq E_e3 pre fn) : C_e3 pre fn := sound tysOk mixed (fn := Tryz.f165) rfl rfl rfl ConsOk.nil _ hev
abbrev M_e4 : Lm := [.imm S_BatBatch]
abbrev R_e4 : Lr := [(.own, S_BatBatch)]
abbrev In_e4 := Iq M_e4
abbrev Out_e4 := Oq R_e4 M_e4
abbrev C_e4 := Cq 104 M_e4 R_e4
section
variable (g_e1 : In_e1 -> Out_e1) (p_e1 : In_e1 -> Bool) (g_e2 : In_e2 -> Out_e2) (p_e2 : In_e2 -> Bool) (g_e3 : In_e3 -> Out_e3) (p_e3 : In_e3 -> Bool)
abbrev X_e4 : Ctx := ctx tys 30 (conOf [(163, ⟨M_e1, R_e1, p_e1, g_e1⟩), (164, ⟨M_e2, R_e2, p_e2, g_e2⟩), (165, ⟨M_e3, R_e3, p_e3, g_e3⟩)]) (keepOf [(pt0, (⟨[(1, .asis), (2, .asis), (3, .own), (7, .asis), (8, .asis), (9, .asis)], [(1, .asis), (2, (.pair .asis (.pair .asis (.pair .own (.pair .asis (.pair .own .own))))))], []⟩ : Keep))]) nF
abbrev E_e4 := evFn (X_e4 g_e1 p_e1 g_e2 p_e2 g_e3 p_e3) Tryz.f104 R_e4 M_e4
def h0_e4 (x0 : Dm (.imm S_BatBatch)) (h0 : Dn I) (h1 : Dn I) (h2 : Dn I) (h3 : Dn I) (h4 : Dn I) (h5 : (List (Dn S_TstTest))) (h6 : (List (Dn S_BatSig))) (h7 : (List (Dn Sh.bool))) (h8 : (List (Dn S_TstTest))) : St := mkS [(1, (AV.ptr 1 none [])), (2, (AV.ptr 2 none [])), (3, (AV.sref 2503 none [])), (7, (AV.val L_TstTest x0.2.2.1)), (8, (AV.val I h0)), (9, (AV.val I h1))] [(1, (Ob.box S_BatBatch (AV.val S_BatBatch x0))), (2, (Ob.box S_BatBatch (AV.pair (AV.val I h2) (AV.pair (AV.val I h3) (AV.pair (AV.sref 2502 none []) (AV.pair (AV.val I h4) (AV.pair (AV.sref 12502 none []) (AV.sref 22502 none [])))))))), (2502, (Ob.arr 56 S_TstTest h5)), (12502, (Ob.arr 58 S_BatSig h6)), (22502, (Ob.arr 4 Sh.bool h7)), (2503, (Ob.arr 56 S_TstTest h8))]
def r_e4 := rounds (X_e4 g_e1 p_e1 g_e2 p_e2 g_e3 p_e3) Tryz.f104 R_e4 M_e4
variable {g_e1 p_e1 g_e2 p_e2 g_e3 p_e3}
theorem ev_e4 (k : Nat) (x0 : Dm (.imm S_BatBatch)) : E_e4 g_e1 p_e1 g_e2 p_e2 g_e3 p_e3 k (x0, ()) =
 (r_e4 g_e1 p_e1 g_e2 p_e2 g_e3 p_e3 (x0, ()) k pt0 (h0_e4 x0 (List.length x0.2.2.1 : Int) (0 : Int) (0 : Int) (0 : Int) (0 : Int) [] [] [] [])) := by kernel_rfl
theorem rd0_e4 (k : Nat) (x0 : Dm (.imm S_BatBatch)) (h0 : Dn I) (h1 : Dn I) (h2 : Dn I) (h3 : Dn I) (h4 : Dn I) (h5 : (List (Dn S_TstTest))) (h6 : (List (Dn S_BatSig))) (h7 : (List (Dn Sh.bool))) (h8 : (List (Dn S_TstTest))) : r_e4 g_e1 p_e1 g_e2 p_e2 g_e3 p_e3 (x0, ()) (k + 1) pt0 (h0_e4 x0 h0 h1 h2 h3 h4 h5 h6 h7 h8) =
 (bif (decide (h1 < h0)) then (bif (bif (decide ((0 : Int) <= h1)) then (decide (h1 < (List.length x0.2.2.1 : Int))) else false) then (cl (p_e1 ((rdL (e := S_TstTest) x0.2.2.1 h1), ())) (g_e1 ((rdL (e := S_TstTest) x0.2.2.1 h1), ())) fun y0 => (bif (fitL h8 [(y0.1)]) then (r_e4 g_e1 p_e1 g_e2 p_e2 g_e3 p_e3 (x0, ()) k pt0 (h0_e4 x0 h0 (w64 (h1 + (1 : Int))) h2 h3 h4 h5 h6 h7 (List.append h8 [(y0.1)]))) else none)) else none) else (cl (p_e2 (x0.2.2.2.2.1, ())) (g_e2 (x0.2.2.2.2.1, ())) fun y1 => (cl (p_e3 (x0.2.2.2.2.2, ())) (g_e3 (x0.2.2.2.2.2, ())) fun y2 => (some ((x0.1, (x0.2.1, (h8, (x0.2.2.2.1, (y1.1, y2.1))))), ()))))) := by kernel_rfl
theorem S_e4 (h_e1 : C_e1 p_e1 g_e1) (h_e2 : C_e2 p_e2 g_e2) (h_e3 : C_e3 p_e3 g_e3) {pre fn} (hev : Hq (E_e4 g_e1 p_e1 g_e2 p_e2 g_e3 p_e3) pre fn) : C_e4 pre fn := sound tysOk mixed (fn := Tryz.f104) rfl rfl rfl (.cons h_e1 (.cons h_e2 (.cons h_e3 .nil))) _ hev
end
abbrev M_e5 : Lm := [.imm S_HouHouse]
abbrev R_e5 : Lr := [(.own, S_HouHouse)]
abbrev In_e5 := Iq M_e5
abbrev Out_e5 := Oq R_e5 M_e5
abbrev C_e5 := Cq 60 M_e5 R_e5
section
variable (g_dx : In_dx -> Out_dx) (p_dx : In_dx -> Bool) (g_dz : In_dz -> Out_dz) (p_dz : In_dz -> Bool) (g_e4 : In_e4 -> Out_e4) (p_e4 : In_e4 -> Bool)
abbrev X_e5 : Ctx := ctx tys 29 (conOf [(125, ⟨M_dx, R_dx, p_dx, g_dx⟩), (126, ⟨M_dz, R_dz, p_dz, g_dz⟩), (104, ⟨M_e4, R_e4, p_e4, g_e4⟩)]) (keepOf [(pt0, (⟨[(2, .asis), (3, .asis), (14, .asis), (15, .asis), (16, .asis)], [(2, (.pair .own (.pair .own .own))), (3, (.pair .own (.pair .own .own)))], []⟩ : Keep))]) nF
abbrev E_e5 := evFn (X_e5 g_dx p_dx g_dz p_dz g_e4 p_e4) Tryz.f60 R_e5 M_e5
def h0_e5 (x0 : Dm (.imm S_HouHouse)) (h0 : Dn I) (h1 : Dn I) (h2 : (List (Dn I))) (h3 : (List (Dn S_SpcSpec))) (h4 : (List (Dn S_BatBatch))) (h5 : (List (Dn I))) (h6 : (List (Dn S_SpcSpec))) (h7 : (List (Dn S_BatBatch))) : St := mkS [(2, (AV.ptr 2 none [])), (3, (AV.ptr 3 none [])), (14, (AV.val L_BatBatch x0.2.2)), (15, (AV.val I h0)), (16, (AV.val I h1))] [(2, (Ob.box S_HouHouse (AV.pair (AV.sref 2502 none []) (AV.pair (AV.sref 12502 none []) (AV.sref 22502 none []))))), (2502, (Ob.arr 3 I h2)), (12502, (Ob.arr 83 S_SpcSpec h3)), (22502, (Ob.arr 45 S_BatBatch h4)), (3, (Ob.box S_HouHouse (AV.pair (AV.sref 2503 none []) (AV.pair (AV.sref 12503 none []) (AV.sref 22503 none []))))), (2503, (Ob.arr 3 I h5)), (12503, (Ob.arr 83 S_SpcSpec h6)), (22503, (Ob.arr 45 S_BatBatch h7))]
def r_e5 := rounds (X_e5 g_dx p_dx g_dz p_dz g_e4 p_e4) Tryz.f60 R_e5 M_e5
variable {g_dx p_dx g_dz p_dz g_e4 p_e4}
theorem ev_e5 (k : Nat) (x0 : Dm (.imm S_HouHouse)) : E_e5 g_dx p_dx g_dz p_dz g_e4 p_e4 k (x0, ()) =
 (cl (p_dx (x0.1, ())) (g_dx (x0.1, ())) fun y0 => (cl (p_dz (x0.2.1, ())) (g_dz (x0.2.1, ())) fun y1 => (r_e5 g_dx p_dx g_dz p_dz g_e4 p_e4 (x0, ()) k pt0 (h0_e5 x0 (List.length x0.2.2 : Int) (0 : Int) [] [] [] (y0.1) (y1.1) [])))) := by kernel_rfl
theorem rd0_e5 (k : Nat) (x0 : Dm (.imm S_HouHouse)) (h0 : Dn I) (h1 : Dn I) (h2 : (List (Dn I))) (h3 : (List (Dn S_SpcSpec))) (h4 : (List (Dn S_BatBatch))) (h5 : (List (Dn I))) (h6 : (List (Dn S_SpcSpec))) (h7 : (List (Dn S_BatBatch))) : r_e5 g_dx p_dx g_dz p_dz g_e4 p_e4 (x0, ()) (k + 1) pt0 (h0_e5 x0 h0 h1 h2 h3 h4 h5 h6 h7) =
 (bif (decide (h1 < h0)) then (bif (bif (decide ((0 : Int) <= h1)) then (decide (h1 < (List.length x0.2.2 : Int))) else false) then (cl (p_e4 ((rdL (e := S_BatBatch) x0.2.2 h1), ())) (g_e4 ((rdL (e := S_BatBatch) x0.2.2 h1), ())) fun y0 => (bif (fitL h7 [(y0.1)]) then (r_e5 g_dx p_dx g_dz p_dz g_e4 p_e4 (x0, ()) k pt0 (h0_e5 x0 h0 (w64 (h1 + (1 : Int))) h2 h3 h4 h5 h6 (List.append h7 [(y0.1)]))) else none)) else none) else (some ((h5, (h6, h7)), ()))) := by kernel_rfl
theorem S_e5 (h_dx : C_dx p_dx g_dx) (h_dz : C_dz p_dz g_dz) (h_e4 : C_e4 p_e4 g_e4) {pre fn} (hev : Hq (E_e5 g_dx p_dx g_dz p_dz g_e4 p_e4) pre fn) : C_e5 pre fn := sound tysOk mixed (fn := Tryz.f60) rfl rfl rfl (.cons h_dx (.cons h_dz (.cons h_e4 .nil))) _ hev
end
abbrev M_e6 : Lm := [.imm L_int, .imm I]
abbrev R_e6 : Lr := [(.imm, I)]
abbrev In_e6 := Iq M_e6
abbrev Out_e6 := Oq R_e6 M_e6
abbrev C_e6 := Cq 171 M_e6 R_e6
abbrev X_e6 : Ctx := ctx tys 19 (conOf []) (keepOf [(pt1, (⟨[(0, .asis), (1, .asis), (7, .asis), (8, .asis)], [], []⟩ : Keep))]) nF
abbrev E_e6 := evFn X_e6 Tryz.f171 R_e6 M_e6
def h0_e6 (x0 : Dm (.imm L_int)) (x1 : Dm (.imm I)) (h0 : Dn I) (h1 : Dn I) : St := mkS [(0, (AV.val L_int x0)), (1, (AV.val I x1)), (7, (AV.val I h0)), (8, (AV.val I h1))] []
def r_e6 := rounds X_e6 Tryz.f171 R_e6 M_e6
theorem ev_e6 (k : Nat) (x0 : Dm (.imm L_int)) (x1 : Dm (.imm I)) : E_e6 k (x0, x1, ()) =
 (r_e6  (x0, x1, ()) k pt1 (h0_e6 x0 x1 (List.length x0 : Int) (0 : Int))) := by kernel_rfl
theorem rd0_e6 (k : Nat) (x0 : Dm (.imm L_int)) (x1 : Dm (.imm I)) (h0 : Dn I) (h1 : Dn I) : r_e6  (x0, x1, ()) (k + 1) pt1 (h0_e6 x0 x1 h0 h1) =
 (bif (decide (h1 < h0)) then (bif (bif (decide ((0 : Int) <= h1)) then (decide (h1 < (List.length x0 : Int))) else false) then (bif (decide (x1 = (rdL (e := I) x0 h1))) then (some (h1, ())) else (r_e6  (x0, x1, ()) k pt1 (h0_e6 x0 x1 h0 (w64 (h1 + (1 : Int)))))) else none) else (some ((-1 : Int), ()))) := by kernel_rfl
theorem S_e6  {pre fn} (hev : Hq E_e6 pre fn) : C_e6 pre fn := sound tysOk mixed (fn := Tryz.f171) rfl rfl rfl ConsOk.nil _ hev
abbrev M_e7 : Lm := [.imm L_int, .imm I]
abbrev R_e7 : Lr := [(.imm, .bool)]
abbrev In_e7 := Iq M_e7
abbrev Out_e7 := Oq R_e7 M_e7
abbrev C_e7 := Cq 114 M_e7 R_e7
section
variable (g_e6 : In_e6 -> Out_e6) (p_e6 : In_e6 -> Bool)
abbrev X_e7 : Ctx := ctx tys 9 (conOf [(171, ⟨M_e6, R_e6, p_e6, g_e6⟩)]) (keepOf []) nF
abbrev E_e7 := evFn (X_e7 g_e6 p_e6) Tryz.f114 R_e7 M_e7
variable {g_e6 p_e6}
theorem ev_e7 (k : Nat) (x0 : Dm (.imm L_int)) (x1 : Dm (.imm I)) : E_e7 g_e6 p_e6 k (x0, x1, ()) =
 (cl (p_e6 (x0, (x1, ()))) (g_e6 (x0, (x1, ()))) fun y0 => (some ((decide ((0 : Int) <= y0.1)), ()))) := by kernel_rfl
theorem S_e7 (h_e6 : C_e6 p_e6 g_e6) {pre fn} (hev : Hq (E_e7 g_e6 p_e6) pre fn) : C_e7 pre fn := sound tysOk mixed (fn := Tryz.f114) rfl rfl rfl (.cons h_e6 .nil) _ hev
end
abbrev M_e8 : Lm := [.imm I, .imm I]
abbrev R_e8 : Lr := [(.imm, .bool)]
abbrev In_e8 := Iq M_e8
abbrev Out_e8 := Oq R_e8 M_e8
abbrev C_e8 := Cq 52 M_e8 R_e8
section
variable (g_dp : In_dp -> Out_dp) (g_e7 : In_e7 -> Out_e7) (p_e7 : In_e7 -> Bool)
abbrev X_e8 : Ctx := ctx tys 10 (conOf [(71, ⟨M_dp, R_dp, fun _ => true, g_dp⟩), (114, ⟨M_e7, R_e7, p_e7, g_e7⟩)]) (keepOf []) nF
abbrev E_e8 := evFn (X_e8 g_dp g_e7 p_e7) Tryz.f52 R_e8 M_e8
variable {g_dp g_e7 p_e7}
theorem ev_e8 (k : Nat) (x0 : Dm (.imm I)) (x1 : Dm (.imm I)) : E_e8 g_dp g_e7 p_e7 k (x0, x1, ()) =
 (cl (p_e7 ((g_dp (x1, ())).1.2.1, (x0, ()))) (g_e7 ((g_dp (x1, ())).1.2.1, (x0, ()))) fun y0 => (some (y0.1, ()))) := by kernel_rfl
theorem S_e8 (h_dp : C_dp (fun _ => true) g_dp) (h_e7 : C_e7 p_e7 g_e7) {pre fn} (hev : Hq (E_e8 g_dp g_e7 p_e7) pre fn) : C_e8 pre fn := sound tysOk mixed (fn := Tryz.f52) rfl rfl rfl (.cons h_dp (.cons h_e7 .nil)) _ hev
end
abbrev M_e9 : Lm := [.imm L_SpcSpec, .imm L_SpcTest]
abbrev R_e9 : Lr := [(.own, L_SpcSpec), (.imm, .bool)]
abbrev In_e9 := Iq M_e9
abbrev Out_e9 := Oq R_e9 M_e9
abbrev C_e9 := Cq 127 M_e9 R_e9
section
variable (g_dz : In_dz -> Out_dz) (p_dz : In_dz -> Bool) (g_ci : In_ci -> Out_ci) (p_ci : In_ci -> Bool) (g_ch : In_ch -> Out_ch) (p_ch : In_ch -> Bool) (g_dy : In_dy -> Out_dy) (p_dy : In_dy -> Bool)
abbrev X_e9 : Ctx := ctx tys 29 (conOf [(126, ⟨M_dz, R_dz, p_dz, g_dz⟩), (109, ⟨M_ci, R_ci, p_ci, g_ci⟩), (74, ⟨M_ch, R_ch, p_ch, g_ch⟩), (182, ⟨M_dy, R_dy, p_dy, g_dy⟩)]) (keepOf []) nF
abbrev E_e9 := evFn (X_e9 g_dz p_dz g_ci p_ci g_ch p_ch g_dy p_dy) Tryz.f127 R_e9 M_e9
variable {g_dz p_dz g_ci p_ci g_ch p_ch g_dy p_dy}
theorem ev_e9 (k : Nat) (x0 : Dm (.imm L_SpcSpec)) (x1 : Dm (.imm L_SpcTest)) : E_e9 g_dz p_dz g_ci p_ci g_ch p_ch g_dy p_dy k (x0, x1, ()) =
 (bif (p_dz (x0, ())) then (bif (p_ci (x0, ())) then (bif (bif (g_ci (x0, ())).1 then false else true) then (some ((g_dz (x0, ())).1, (false, ()))) else (bif (p_ch (x1, ())) then (bif (bif (g_ch (x1, ())).1 then false else true) then (some ((g_dz (x0, ())).1, (false, ()))) else (bif (decide ((List.length x0 : Int) = (6 : Int))) then (some ((g_dz (x0, ())).1, (false, ()))) else (bif (p_dy (x1, ())) then (bif (fitL (g_dz (x0, ())).1 [((g_dy (x1, ())).1, (1 : Int))]) then (some ((List.append (g_dz (x0, ())).1 [((g_dy (x1, ())).1, (1 : Int))]), (true, ()))) else none) else none))) else none)) else none) else none) := by kernel_rfl
theorem S_e9 (h_dz : C_dz p_dz g_dz) (h_ci : C_ci p_ci g_ci) (h_ch : C_ch p_ch g_ch) (h_dy : C_dy p_dy g_dy) {pre fn} (hev : Hq (E_e9 g_dz p_dz g_ci p_ci g_ch p_ch g_dy p_dy) pre fn) : C_e9 pre fn := sound tysOk mixed (fn := Tryz.f127) rfl rfl rfl (.cons h_dz (.cons h_ci (.cons h_ch (.cons h_dy .nil)))) _ hev
end
abbrev M_ea : Lm := [.imm .bool, .imm I]
abbrev R_ea : Lr := [(.imm, I)]
abbrev In_ea := Iq M_ea
abbrev Out_ea := Oq R_ea M_ea
abbrev C_ea := Cq 128 M_ea R_ea
abbrev X_ea : Ctx := ctx tys 7 (conOf []) (keepOf []) nF
abbrev E_ea := evFn X_ea Tryz.f128 R_ea M_ea
theorem ev_ea (k : Nat) (x0 : Dm (.imm .bool)) (x1 : Dm (.imm I)) : E_ea k (x0, x1, ()) =
 (bif x0 then (some ((1 : Int), ())) else (some (x1, ()))) := by kernel_rfl
theorem S_ea  {pre fn} (hev : Hq E_ea pre fn) : C_ea pre fn := sound tysOk mixed (fn := Tryz.f128) rfl rfl rfl ConsOk.nil _ hev
abbrev M_eb : Lm := [.imm S_SpcSpec]
abbrev R_eb : Lr := [(.imm, .bool)]
abbrev In_eb := Iq M_eb
abbrev Out_eb := Oq R_eb M_eb
abbrev C_eb := Cq 116 M_eb R_eb
abbrev X_eb : Ctx := ctx tys 6 (conOf []) (keepOf []) nF
abbrev E_eb := evFn X_eb Tryz.f116 R_eb M_eb
theorem ev_eb (k : Nat) (x0 : Dm (.imm S_SpcSpec)) : E_eb k (x0, ()) =
 (some ((decide (x0.2 = (2 : Int))), ())) := by kernel_rfl
theorem S_eb  {pre fn} (hev : Hq E_eb pre fn) : C_eb pre fn := sound tysOk mixed (fn := Tryz.f116) rfl rfl rfl ConsOk.nil _ hev
abbrev M_ec : Lm := [.imm L_SpcSpec, .clo 116 []]
abbrev R_ec : Lr := [(.imm, I)]
abbrev In_ec := Iq M_ec
abbrev Out_ec := Oq R_ec M_ec
abbrev C_ec := Cq 115 M_ec R_ec
section
variable (g_eb : In_eb -> Out_eb)
abbrev X_ec : Ctx := ctx tys 19 (conOf [(116, ⟨M_eb, R_eb, fun _ => true, g_eb⟩)]) (keepOf [(pt1, (⟨[(0, .asis), (1, .asis), (7, .asis), (8, .asis)], [], []⟩ : Keep))]) nF
abbrev E_ec := evFn (X_ec g_eb) Tryz.f115 R_ec M_ec
def h0_ec (x0 : Dm (.imm L_SpcSpec)) (x1 : Dm (.clo 116 [])) (h0 : Dn I) (h1 : Dn I) : St := mkS [(0, (AV.val L_SpcSpec x0)), (1, (AV.fn 116 [])), (7, (AV.val I h0)), (8, (AV.val I h1))] []
def r_ec := rounds (X_ec g_eb) Tryz.f115 R_ec M_ec
variable {g_eb}
theorem ev_ec (k : Nat) (x0 : Dm (.imm L_SpcSpec)) (x1 : Dm (.clo 116 [])) : E_ec g_eb k (x0, x1, ()) =
 (r_ec g_eb (x0, x1, ()) k pt1 (h0_ec x0 x1 (List.length x0 : Int) (0 : Int))) := by kernel_rfl
theorem rd0_ec (k : Nat) (x0 : Dm (.imm L_SpcSpec)) (x1 : Dm (.clo 116 [])) (h0 : Dn I) (h1 : Dn I) : r_ec g_eb (x0, x1, ()) (k + 1) pt1 (h0_ec x0 x1 h0 h1) =
 (bif (decide (h1 < h0)) then (bif (bif (decide ((0 : Int) <= h1)) then (decide (h1 < (List.length x0 : Int))) else false) then (bif (g_eb ((rdL (e := S_SpcSpec) x0 h1), ())).1 then (some (h1, ())) else (r_ec g_eb (x0, x1, ()) k pt1 (h0_ec x0 x1 h0 (w64 (h1 + (1 : Int)))))) else none) else (some ((-1 : Int), ()))) := by kernel_rfl
theorem S_ec (h_eb : C_eb (fun _ => true) g_eb) {pre fn} (hev : Hq (E_ec g_eb) pre fn) : C_ec pre fn := sound tysOk mixed (fn := Tryz.f115) rfl rfl rfl (.cons h_eb .nil) _ hev
end
abbrev M_ed : Lm := [.imm L_SpcSpec]
abbrev R_ed : Lr := [(.imm, I)]
abbrev In_ed := Iq M_ed
abbrev Out_ed := Oq R_ed M_ed
abbrev C_ed := Cq 54 M_ed R_ed
section
variable (g_ec : In_ec -> Out_ec) (p_ec : In_ec -> Bool)
abbrev X_ed : Ctx := ctx tys 5 (conOf [(115, ⟨M_ec, R_ec, p_ec, g_ec⟩)]) (keepOf []) nF
abbrev E_ed := evFn (X_ed g_ec p_ec) Tryz.f54 R_ed M_ed
variable {g_ec p_ec}
theorem ev_ed (k : Nat) (x0 : Dm (.imm L_SpcSpec)) : E_ed g_ec p_ec k (x0, ()) =
 (bif (p_ec (x0, ((), ()))) then (some ((g_ec (x0, ((), ()))).1, ())) else none) := by kernel_rfl
theorem S_ed (h_ec : C_ec p_ec g_ec) {pre fn} (hev : Hq (E_ed g_ec p_ec) pre fn) : C_ed pre fn := sound tysOk mixed (fn := Tryz.f54) rfl rfl rfl (.cons h_ec .nil) _ hev
end
abbrev M_ee : Lm := [.imm L_SpcSpec, .imm I]
abbrev R_ee : Lr := [(.own, L_SpcSpec), (.imm, .bool)]
abbrev In_ee := Iq M_ee
abbrev Out_ee := Oq R_ee M_ee
abbrev C_ee := Cq 129 M_ee R_ee
section
variable (g_dz : In_dz -> Out_dz) (p_dz : In_dz -> Bool) (g_ci : In_ci -> Out_ci) (p_ci : In_ci -> Bool) (g_iin : In_iin -> Out_iin) (g_ed : In_ed -> Out_ed) (p_ed : In_ed -> Bool)
abbrev X_ee : Ctx := ctx tys 43 (conOf [(126, ⟨M_dz, R_dz, p_dz, g_dz⟩), (109, ⟨M_ci, R_ci, p_ci, g_ci⟩), (65, ⟨M_iin, R_iin, fun _ => true, g_iin⟩), (54, ⟨M_ed, R_ed, p_ed, g_ed⟩)]) (keepOf []) nF
abbrev E_ee := evFn (X_ee g_dz p_dz g_ci p_ci g_iin g_ed p_ed) Tryz.f129 R_ee M_ee
variable {g_dz p_dz g_ci p_ci g_iin g_ed p_ed}
theorem ev_ee (k : Nat) (x0 : Dm (.imm L_SpcSpec)) (x1 : Dm (.imm I)) : E_ee g_dz p_dz g_ci p_ci g_iin g_ed p_ed k (x0, x1, ()) =
 (bif (p_dz (x0, ())) then (bif (p_ci (x0, ())) then (bif (bif (g_ci (x0, ())).1 then false else true) then (some ((g_dz (x0, ())).1, (false, ()))) else (bif (bif (g_iin (x1, ((0 : Int), ((w64 ((List.length x0 : Int) - (1 : Int))), ())))).1 then false else true) then (some ((g_dz (x0, ())).1, (false, ()))) else (bif (bif (decide ((0 : Int) <= x1)) then (decide (x1 < (List.length x0 : Int))) else false) then (bif (bif (decide ((rdL (e := S_SpcSpec) x0 x1).2 = (1 : Int))) then false else true) then (some ((g_dz (x0, ())).1, (false, ()))) else (bif (p_ed ((g_dz (x0, ())).1, ())) then (bif (decide ((0 : Int) <= (g_ed ((g_dz (x0, ())).1, ())).1)) then (bif (bif (decide ((0 : Int) <= (g_ed ((g_dz (x0, ())).1, ())).1)) then (decide ((g_ed ((g_dz (x0, ())).1, ())).1 < (List.length (g_dz (x0, ())).1 : Int))) else false) then (bif (bif (decide ((0 : Int) <= x1)) then (decide (x1 < (List.length (List.set (g_dz (x0, ())).1 (Int.toNat (g_ed ((g_dz (x0, ())).1, ())).1) ((rdL (e := S_SpcSpec) (g_dz (x0, ())).1 (g_ed ((g_dz (x0, ())).1, ())).1).1, (3 : Int))) : Int))) else false) then (some ((List.set (List.set (g_dz (x0, ())).1 (Int.toNat (g_ed ((g_dz (x0, ())).1, ())).1) ((rdL (e := S_SpcSpec) (g_dz (x0, ())).1 (g_ed ((g_dz (x0, ())).1, ())).1).1, (3 : Int))) (Int.toNat x1) ((rdL (e := S_SpcSpec) (List.set (g_dz (x0, ())).1 (Int.toNat (g_ed ((g_dz (x0, ())).1, ())).1) ((rdL (e := S_SpcSpec) (g_dz (x0, ())).1 (g_ed ((g_dz (x0, ())).1, ())).1).1, (3 : Int))) x1).1, (2 : Int))), (true, ()))) else none) else none) else (bif (bif (decide ((0 : Int) <= x1)) then (decide (x1 < (List.length (g_dz (x0, ())).1 : Int))) else false) then (some ((List.set (g_dz (x0, ())).1 (Int.toNat x1) ((rdL (e := S_SpcSpec) (g_dz (x0, ())).1 x1).1, (2 : Int))), (true, ()))) else none)) else none)) else none))) else none) else none) := by kernel_rfl
theorem S_ee (h_dz : C_dz p_dz g_dz) (h_ci : C_ci p_ci g_ci) (h_iin : C_iin (fun _ => true) g_iin) (h_ed : C_ed p_ed g_ed) {pre fn} (hev : Hq (E_ee g_dz p_dz g_ci p_ci g_iin g_ed p_ed) pre fn) : C_ee pre fn := sound tysOk mixed (fn := Tryz.f129) rfl rfl rfl (.cons h_dz (.cons h_ci (.cons h_iin (.cons h_ed .nil)))) _ hev
end
abbrev M_ef : Lm := [.imm S_SpcTest]
abbrev R_ef : Lr := [(.own, S_TstTest)]
abbrev In_ef := Iq M_ef
abbrev Out_ef := Oq R_ef M_ef
abbrev C_ef := Cq 203 M_ef R_ef
abbrev X_ef : Ctx := ctx tys 5 (conOf []) (keepOf []) nF
abbrev E_ef := evFn X_ef Tryz.f203 R_ef M_ef
theorem ev_ef (k : Nat) (x0 : Dm (.imm S_SpcTest)) : E_ef k (x0, ()) =
 (some ((x0, ((0 : Int), (((0 : Int), (0 : Int)), ((0 : Int), [])))), ())) := by kernel_rfl
theorem S_ef  {pre fn} (hev : Hq E_ef pre fn) : C_ef pre fn := sound tysOk mixed (fn := Tryz.f203) rfl rfl rfl ConsOk.nil _ hev
abbrev M_eg : Lm := [.imm I, .imm L_SpcTest, .imm I]
abbrev R_eg : Lr := [(.own, S_BatBatch)]
abbrev In_eg := Iq M_eg
abbrev Out_eg := Oq R_eg M_eg
abbrev C_eg := Cq 183 M_eg R_eg
section
variable (g_iin : In_iin -> Out_iin) (g_ch : In_ch -> Out_ch) (p_ch : In_ch -> Bool) (g_ef : In_ef -> Out_ef)
abbrev X_eg : Ctx := ctx tys 42 (conOf [(65, ⟨M_iin, R_iin, fun _ => true, g_iin⟩), (74, ⟨M_ch, R_ch, p_ch, g_ch⟩), (203, ⟨M_ef, R_ef, fun _ => true, g_ef⟩)]) (keepOf [(pt2, (⟨[(6, .asis), (7, .asis), (27, .asis), (28, .asis), (29, .asis)], [(6, (.pair .asis (.pair .asis (.pair .own (.pair .asis (.pair .own .own)))))), (7, (.pair .asis (.pair .asis (.pair .own (.pair .asis (.pair .own .own))))))], []⟩ : Keep))]) nF
abbrev E_eg := evFn (X_eg g_iin g_ch p_ch g_ef) Tryz.f183 R_eg M_eg
def h0_eg (x0 : Dm (.imm I)) (x1 : Dm (.imm L_SpcTest)) (x2 : Dm (.imm I)) (h0 : Dn I) (h1 : Dn I) (h2 : Dn I) (h3 : Dn I) (h4 : Dn I) (h5 : (List (Dn S_TstTest))) (h6 : (List (Dn S_BatSig))) (h7 : (List (Dn Sh.bool))) (h8 : Dn I) (h9 : (List (Dn S_TstTest))) (h10 : (List (Dn S_BatSig))) (h11 : (List (Dn Sh.bool))) : St := mkS [(6, (AV.ptr 6 none [])), (7, (AV.ptr 7 none [])), (27, (AV.val L_SpcTest x1)), (28, (AV.val I h0)), (29, (AV.val I h1))] [(6, (Ob.box S_BatBatch (AV.pair (AV.val I h2) (AV.pair (AV.val I h3) (AV.pair (AV.sref 2506 none []) (AV.pair (AV.val I h4) (AV.pair (AV.sref 12506 none []) (AV.sref 22506 none [])))))))), (2506, (Ob.arr 56 S_TstTest h5)), (12506, (Ob.arr 58 S_BatSig h6)), (22506, (Ob.arr 4 Sh.bool h7)), (7, (Ob.box S_BatBatch (AV.pair (AV.val I x0) (AV.pair (AV.val I x2) (AV.pair (AV.sref 2507 none []) (AV.pair (AV.val I h8) (AV.pair (AV.sref 12507 none []) (AV.sref 22507 none [])))))))), (2507, (Ob.arr 56 S_TstTest h9)), (12507, (Ob.arr 58 S_BatSig h10)), (22507, (Ob.arr 4 Sh.bool h11))]
def r_eg := rounds (X_eg g_iin g_ch p_ch g_ef) Tryz.f183 R_eg M_eg
variable {g_iin g_ch p_ch g_ef}
theorem ev_eg (k : Nat) (x0 : Dm (.imm I)) (x1 : Dm (.imm L_SpcTest)) (x2 : Dm (.imm I)) : E_eg g_iin g_ch p_ch g_ef k (x0, x1, x2, ()) =
 (bif (bif (g_iin (x0, ((0 : Int), ((5 : Int), ())))).1 then false else true) then (some (((0 : Int), ((0 : Int), ([], ((0 : Int), ([], []))))), ())) else (cl (p_ch (x1, ())) (g_ch (x1, ())) fun y0 => (bif (bif y0.1 then false else true) then (some (((0 : Int), ((0 : Int), ([], ((0 : Int), ([], []))))), ())) else (bif (bif (g_iin (x2, ((1 : Int), ((10000 : Int), ())))).1 then false else true) then (some (((0 : Int), ((0 : Int), ([], ((0 : Int), ([], []))))), ())) else (r_eg g_iin g_ch p_ch g_ef (x0, x1, x2, ()) k pt2 (h0_eg x0 x1 x2 (List.length x1 : Int) (0 : Int) (0 : Int) (0 : Int) (0 : Int) [] [] [] (1 : Int) [] [] [])))))) := by kernel_rfl
theorem rd0_eg (k : Nat) (x0 : Dm (.imm I)) (x1 : Dm (.imm L_SpcTest)) (x2 : Dm (.imm I)) (h0 : Dn I) (h1 : Dn I) (h2 : Dn I) (h3 : Dn I) (h4 : Dn I) (h5 : (List (Dn S_TstTest))) (h6 : (List (Dn S_BatSig))) (h7 : (List (Dn Sh.bool))) (h8 : Dn I) (h9 : (List (Dn S_TstTest))) (h10 : (List (Dn S_BatSig))) (h11 : (List (Dn Sh.bool))) : r_eg g_iin g_ch p_ch g_ef (x0, x1, x2, ()) (k + 1) pt2 (h0_eg x0 x1 x2 h0 h1 h2 h3 h4 h5 h6 h7 h8 h9 h10 h11) =
 (bif (decide (h1 < h0)) then (bif (bif (decide ((0 : Int) <= h1)) then (decide (h1 < (List.length x1 : Int))) else false) then (bif (fitL h9 [((g_ef ((rdL (e := S_SpcTest) x1 h1), ())).1)]) then (r_eg g_iin g_ch p_ch g_ef (x0, x1, x2, ()) k pt2 (h0_eg x0 x1 x2 h0 (w64 (h1 + (1 : Int))) h2 h3 h4 h5 h6 h7 h8 (List.append h9 [((g_ef ((rdL (e := S_SpcTest) x1 h1), ())).1)]) h10 h11)) else none) else none) else (some ((x0, (x2, (h9, (h8, (h10, h11))))), ()))) := by kernel_rfl
theorem S_eg (h_iin : C_iin (fun _ => true) g_iin) (h_ch : C_ch p_ch g_ch) (h_ef : C_ef (fun _ => true) g_ef) {pre fn} (hev : Hq (E_eg g_iin g_ch p_ch g_ef) pre fn) : C_eg pre fn := sound tysOk mixed (fn := Tryz.f183) rfl rfl rfl (.cons h_iin (.cons h_ch (.cons h_ef .nil))) _ hev
end
abbrev M_eh : Lm := [.pO S_HouHouse, .imm I]
abbrev R_eh : Lr := [(.imm, I)]
abbrev In_eh := Iq M_eh
abbrev Out_eh := Oq R_eh M_eh
abbrev C_eh := Cq 130 M_eh R_eh
section
variable (g_ed : In_ed -> Out_ed) (p_ed : In_ed -> Bool) (g_eg : In_eg -> Out_eg) (p_eg : In_eg -> Bool)
abbrev X_eh : Ctx := ctx tys 44 (conOf [(54, ⟨M_ed, R_ed, p_ed, g_ed⟩), (183, ⟨M_eg, R_eg, p_eg, g_eg⟩)]) (keepOf []) nF
abbrev E_eh := evFn (X_eh g_ed p_ed g_eg p_eg) Tryz.f130 R_eh M_eh
variable {g_ed p_ed g_eg p_eg}
theorem ev_eh (k : Nat) (x0 : Dm (.pO S_HouHouse)) (x1 : Dm (.imm I)) : E_eh g_ed p_ed g_eg p_eg k (x0, x1, ()) =
 (cl (p_ed (x0.2.1, ())) (g_ed (x0.2.1, ())) fun y0 => (bif (decide (y0.1 < (0 : Int))) then (some ((4 : Int), (x0, ()))) else (bif (decide ((List.length x0.2.2 : Int) = (4 : Int))) then (some ((6 : Int), (x0, ()))) else (bif (decide (x1 = (0 : Int))) then (some ((5 : Int), (x0, ()))) else (bif (bif (decide ((0 : Int) <= y0.1)) then (decide (y0.1 < (List.length x0.2.1 : Int))) else false) then (cl (p_eg (y0.1, ((rdL (e := S_SpcSpec) x0.2.1 y0.1).1, (x1, ())))) (g_eg (y0.1, ((rdL (e := S_SpcSpec) x0.2.1 y0.1).1, (x1, ())))) fun y1 => (bif (fitL x0.2.2 [(y1.1)]) then (some ((1 : Int), ((x0.1, (x0.2.1, (List.append x0.2.2 [(y1.1)]))), ()))) else none)) else none))))) := by kernel_rfl
theorem S_eh (h_ed : C_ed p_ed g_ed) (h_eg : C_eg p_eg g_eg) {pre fn} (hev : Hq (E_eh g_ed p_ed g_eg p_eg) pre fn) : C_eh pre fn := sound tysOk mixed (fn := Tryz.f130) rfl rfl rfl (.cons h_ed (.cons h_eg .nil)) _ hev
end
abbrev M_ei : Lm := [.imm S_TstTest, .pR I]
abbrev R_ei : Lr := [(.imm, .bool)]
abbrev In_ei := Iq M_ei
abbrev Out_ei := Oq R_ei M_ei
abbrev C_ei := Cq 97 M_ei R_ei
abbrev X_ei : Ctx := ctx tys 9 (conOf []) (keepOf []) nF
abbrev E_ei := evFn X_ei Tryz.f97 R_ei M_ei
theorem ev_ei (k : Nat) (x0 : Dm (.imm S_TstTest)) (x1 : Dm (.pR I)) : E_ei k (x0, x1, ()) =
 (some ((decide (x0.1.1 = x1)), ())) := by kernel_rfl
theorem S_ei  {pre fn} (hev : Hq E_ei pre fn) : C_ei pre fn := sound tysOk mixed (fn := Tryz.f97) rfl rfl rfl ConsOk.nil _ hev
abbrev M_ej : Lm := [.imm L_TstTest, .clo 97 [I]]
abbrev R_ej : Lr := [(.imm, I)]
abbrev In_ej := Iq M_ej
abbrev Out_ej := Oq R_ej M_ej
abbrev C_ej := Cq 96 M_ej R_ej
section
variable (g_ei : In_ei -> Out_ei) (p_ei : In_ei -> Bool)
abbrev X_ej : Ctx := ctx tys 19 (conOf [(97, ⟨M_ei, R_ei, p_ei, g_ei⟩)]) (keepOf [(pt1, (⟨[(0, .asis), (1, .asis), (7, .asis), (8, .asis)], [(1000005000, .asis)], []⟩ : Keep))]) nF
abbrev E_ej := evFn (X_ej g_ei p_ei) Tryz.f96 R_ej M_ej
def h0_ej (x0 : Dm (.imm L_TstTest)) (x1 : Dm (.clo 97 [I])) (h0 : Dn I) (h1 : Dn I) : St := mkS [(0, (AV.val L_TstTest x0)), (1, (AV.fn 97 [1000005000])), (7, (AV.val I h0)), (8, (AV.val I h1))] [(1000005000, (Ob.cbox I x1.1))]
def r_ej := rounds (X_ej g_ei p_ei) Tryz.f96 R_ej M_ej
variable {g_ei p_ei}
theorem ev_ej (k : Nat) (x0 : Dm (.imm L_TstTest)) (x1 : Dm (.clo 97 [I])) : E_ej g_ei p_ei k (x0, x1, ()) =
 (r_ej g_ei p_ei (x0, x1, ()) k pt1 (h0_ej x0 x1 (List.length x0 : Int) (0 : Int))) := by kernel_rfl
theorem rd0_ej (k : Nat) (x0 : Dm (.imm L_TstTest)) (x1 : Dm (.clo 97 [I])) (h0 : Dn I) (h1 : Dn I) : r_ej g_ei p_ei (x0, x1, ()) (k + 1) pt1 (h0_ej x0 x1 h0 h1) =
 (bif (decide (h1 < h0)) then (bif (bif (decide ((0 : Int) <= h1)) then (decide (h1 < (List.length x0 : Int))) else false) then (cl (p_ei ((rdL (e := S_TstTest) x0 h1), (x1.1, ()))) (g_ei ((rdL (e := S_TstTest) x0 h1), (x1.1, ()))) fun y0 => (bif y0.1 then (some (h1, ())) else (r_ej g_ei p_ei (x0, x1, ()) k pt1 (h0_ej x0 x1 h0 (w64 (h1 + (1 : Int))))))) else none) else (some ((-1 : Int), ()))) := by kernel_rfl
theorem S_ej (h_ei : C_ei p_ei g_ei) {pre fn} (hev : Hq (E_ej g_ei p_ei) pre fn) : C_ej pre fn := sound tysOk mixed (fn := Tryz.f96) rfl rfl rfl (.cons h_ei .nil) _ hev
end
abbrev M_ek : Lm := [.pO S_TstTest, .pR S_DecDec]
abbrev R_ek : Lr := []
abbrev In_ek := Iq M_ek
abbrev Out_ek := Oq R_ek M_ek
abbrev C_ek := Cq 101 M_ek R_ek
abbrev X_ek : Ctx := ctx tys 7 (conOf []) (keepOf []) nF
abbrev E_ek := evFn X_ek Tryz.f101 R_ek M_ek
theorem ev_ek (k : Nat) (x0 : Dm (.pO S_TstTest)) (x1 : Dm (.pR S_DecDec)) : E_ek k (x0, x1, ()) =
 (some ((x0.1, (x0.2.1, (x1, x0.2.2.2))), ())) := by kernel_rfl
theorem S_ek  {pre fn} (hev : Hq E_ek pre fn) : C_ek pre fn := sound tysOk mixed (fn := Tryz.f101) rfl rfl rfl ConsOk.nil _ hev
abbrev M_el : Lm := [.imm S_TstTest, .imm I, .imm .bool, .clo 101 [S_DecDec]]
abbrev R_el : Lr := [(.own, S_TstTest), (.imm, .bool)]
abbrev In_el := Iq M_el
abbrev Out_el := Oq R_el M_el
abbrev C_el := Cq 100 M_el R_el
section
variable (g_e1 : In_e1 -> Out_e1) (p_e1 : In_e1 -> Bool) (g_cv : In_cv -> Out_cv) (p_cv : In_cv -> Bool) (g_ek : In_ek -> Out_ek) (p_ek : In_ek -> Bool) (g_cu : In_cu -> Out_cu) (p_cu : In_cu -> Bool)
abbrev X_el : Ctx := ctx tys 33 (conOf [(163, ⟨M_e1, R_e1, p_e1, g_e1⟩), (88, ⟨M_cv, R_cv, p_cv, g_cv⟩), (101, ⟨M_ek, R_ek, p_ek, g_ek⟩), (156, ⟨M_cu, R_cu, p_cu, g_cu⟩)]) (keepOf []) nF
abbrev E_el := evFn (X_el g_e1 p_e1 g_cv p_cv g_ek p_ek g_cu p_cu) Tryz.f100 R_el M_el
variable {g_e1 p_e1 g_cv p_cv g_ek p_ek g_cu p_cu}
theorem ev_el (k : Nat) (x0 : Dm (.imm S_TstTest)) (x1 : Dm (.imm I)) (x2 : Dm (.imm .bool)) (x3 : Dm (.clo 101 [S_DecDec])) : E_el g_e1 p_e1 g_cv p_cv g_ek p_ek g_cu p_cu k (x0, x1, x2, x3, ()) =
 (cl (p_e1 (x0, ())) (g_e1 (x0, ())) fun y0 => (cl (p_cv (x0, ())) (g_cv (x0, ())) fun y1 => (bif (bif y1.1 then false else true) then (some (y0.1, (false, ()))) else (bif (bif (decide (x0.2.1 = x1)) then false else true) then (some (y0.1, (false, ()))) else (bif (bif x2 then false else true) then (some (y0.1, (false, ()))) else (cl (p_ek (y0.1, (x3.1, ()))) (g_ek (y0.1, (x3.1, ()))) fun y2 => (cl (p_cu (y2.1, ())) (g_cu (y2.1, ())) fun y3 => (some ((y2.1.1, (y3.1, y2.1.2.2)), (true, ())))))))))) := by kernel_rfl
theorem S_el (h_e1 : C_e1 p_e1 g_e1) (h_cv : C_cv p_cv g_cv) (h_ek : C_ek p_ek g_ek) (h_cu : C_cu p_cu g_cu) {pre fn} (hev : Hq (E_el g_e1 p_e1 g_cv p_cv g_ek p_ek g_cu p_cu) pre fn) : C_el pre fn := sound tysOk mixed (fn := Tryz.f100) rfl rfl rfl (.cons h_e1 (.cons h_cv (.cons h_ek (.cons h_cu .nil)))) _ hev
end
abbrev M_em : Lm := [.imm S_TstTest, .imm S_DecDec]
abbrev R_em : Lr := [(.own, S_TstTest), (.imm, .bool)]
abbrev In_em := Iq M_em
abbrev Out_em := Oq R_em M_em
abbrev C_em := Cq 42 M_em R_em
section
variable (g_ca : In_ca -> Out_ca) (g_el : In_el -> Out_el) (p_el : In_el -> Bool)
abbrev X_em : Ctx := ctx tys 13 (conOf [(75, ⟨M_ca, R_ca, fun _ => true, g_ca⟩), (100, ⟨M_el, R_el, p_el, g_el⟩)]) (keepOf []) nF
abbrev E_em := evFn (X_em g_ca g_el p_el) Tryz.f42 R_em M_em
variable {g_ca g_el p_el}
theorem ev_em (k : Nat) (x0 : Dm (.imm S_TstTest)) (x1 : Dm (.imm S_DecDec)) : E_em g_ca g_el p_el k (x0, x1, ()) =
 (cl (p_el (x0, ((0 : Int), ((g_ca (x1, ())).1, ((x1, ()), ()))))) (g_el (x0, ((0 : Int), ((g_ca (x1, ())).1, ((x1, ()), ()))))) fun y0 => (some (y0.1, (y0.2.1, ())))) := by kernel_rfl
theorem S_em (h_ca : C_ca (fun _ => true) g_ca) (h_el : C_el p_el g_el) {pre fn} (hev : Hq (E_em g_ca g_el p_el) pre fn) : C_em pre fn := sound tysOk mixed (fn := Tryz.f42) rfl rfl rfl (.cons h_ca (.cons h_el .nil)) _ hev
end
abbrev M_en : Lm := [.pO S_TstTest, .pR I]
abbrev R_en : Lr := []
abbrev In_en := Iq M_en
abbrev Out_en := Oq R_en M_en
abbrev C_en := Cq 102 M_en R_en
abbrev X_en : Ctx := ctx tys 7 (conOf []) (keepOf []) nF
abbrev E_en := evFn X_en Tryz.f102 R_en M_en
theorem ev_en (k : Nat) (x0 : Dm (.pO S_TstTest)) (x1 : Dm (.pR I)) : E_en k (x0, x1, ()) =
 (some ((x0.1, (x0.2.1, (x0.2.2.1, (x1, x0.2.2.2.2)))), ())) := by kernel_rfl
theorem S_en  {pre fn} (hev : Hq E_en pre fn) : C_en pre fn := sound tysOk mixed (fn := Tryz.f102) rfl rfl rfl ConsOk.nil _ hev
abbrev M_eo : Lm := [.imm S_TstTest, .imm I, .imm .bool, .clo 102 [I]]
abbrev R_eo : Lr := [(.own, S_TstTest), (.imm, .bool)]
abbrev In_eo := Iq M_eo
abbrev Out_eo := Oq R_eo M_eo
abbrev C_eo := Cq 100 M_eo R_eo
section
variable (g_e1 : In_e1 -> Out_e1) (p_e1 : In_e1 -> Bool) (g_cv : In_cv -> Out_cv) (p_cv : In_cv -> Bool) (g_en : In_en -> Out_en) (p_en : In_en -> Bool) (g_cu : In_cu -> Out_cu) (p_cu : In_cu -> Bool)
abbrev X_eo : Ctx := ctx tys 33 (conOf [(163, ⟨M_e1, R_e1, p_e1, g_e1⟩), (88, ⟨M_cv, R_cv, p_cv, g_cv⟩), (102, ⟨M_en, R_en, p_en, g_en⟩), (156, ⟨M_cu, R_cu, p_cu, g_cu⟩)]) (keepOf []) nF
abbrev E_eo := evFn (X_eo g_e1 p_e1 g_cv p_cv g_en p_en g_cu p_cu) Tryz.f100 R_eo M_eo
variable {g_e1 p_e1 g_cv p_cv g_en p_en g_cu p_cu}
theorem ev_eo (k : Nat) (x0 : Dm (.imm S_TstTest)) (x1 : Dm (.imm I)) (x2 : Dm (.imm .bool)) (x3 : Dm (.clo 102 [I])) : E_eo g_e1 p_e1 g_cv p_cv g_en p_en g_cu p_cu k (x0, x1, x2, x3, ()) =
 (cl (p_e1 (x0, ())) (g_e1 (x0, ())) fun y0 => (cl (p_cv (x0, ())) (g_cv (x0, ())) fun y1 => (bif (bif y1.1 then false else true) then (some (y0.1, (false, ()))) else (bif (bif (decide (x0.2.1 = x1)) then false else true) then (some (y0.1, (false, ()))) else (bif (bif x2 then false else true) then (some (y0.1, (false, ()))) else (cl (p_en (y0.1, (x3.1, ()))) (g_en (y0.1, (x3.1, ()))) fun y2 => (cl (p_cu (y2.1, ())) (g_cu (y2.1, ())) fun y3 => (some ((y2.1.1, (y3.1, y2.1.2.2)), (true, ())))))))))) := by kernel_rfl
theorem S_eo (h_e1 : C_e1 p_e1 g_e1) (h_cv : C_cv p_cv g_cv) (h_en : C_en p_en g_en) (h_cu : C_cu p_cu g_cu) {pre fn} (hev : Hq (E_eo g_e1 p_e1 g_cv p_cv g_en p_en g_cu p_cu) pre fn) : C_eo pre fn := sound tysOk mixed (fn := Tryz.f100) rfl rfl rfl (.cons h_e1 (.cons h_cv (.cons h_en (.cons h_cu .nil)))) _ hev
end
abbrev M_ep : Lm := [.imm S_TstTest, .imm I]
abbrev R_ep : Lr := [(.own, S_TstTest), (.imm, .bool)]
abbrev In_ep := Iq M_ep
abbrev Out_ep := Oq R_ep M_ep
abbrev C_ep := Cq 43 M_ep R_ep
section
variable (g_iin : In_iin -> Out_iin) (g_eo : In_eo -> Out_eo) (p_eo : In_eo -> Bool)
abbrev X_ep : Ctx := ctx tys 13 (conOf [(65, ⟨M_iin, R_iin, fun _ => true, g_iin⟩), (100, ⟨M_eo, R_eo, p_eo, g_eo⟩)]) (keepOf []) nF
abbrev E_ep := evFn (X_ep g_iin g_eo p_eo) Tryz.f43 R_ep M_ep
variable {g_iin g_eo p_eo}
theorem ev_ep (k : Nat) (x0 : Dm (.imm S_TstTest)) (x1 : Dm (.imm I)) : E_ep g_iin g_eo p_eo k (x0, x1, ()) =
 (cl (p_eo (x0, ((1 : Int), ((g_iin (x1, ((1 : Int), ((3 : Int), ())))).1, ((x1, ()), ()))))) (g_eo (x0, ((1 : Int), ((g_iin (x1, ((1 : Int), ((3 : Int), ())))).1, ((x1, ()), ()))))) fun y0 => (some (y0.1, (y0.2.1, ())))) := by kernel_rfl
theorem S_ep (h_iin : C_iin (fun _ => true) g_iin) (h_eo : C_eo p_eo g_eo) {pre fn} (hev : Hq (E_ep g_iin g_eo p_eo) pre fn) : C_ep pre fn := sound tysOk mixed (fn := Tryz.f43) rfl rfl rfl (.cons h_iin (.cons h_eo .nil)) _ hev
end
abbrev M_eq : Lm := [.pO S_TstTest, .pR S_DecDec]
abbrev R_eq : Lr := []
abbrev In_eq := Iq M_eq
abbrev Out_eq := Oq R_eq M_eq
abbrev C_eq := Cq 103 M_eq R_eq
abbrev X_eq : Ctx := ctx tys 13 (conOf []) (keepOf []) nF
abbrev E_eq := evFn X_eq Tryz.f103 R_eq M_eq
theorem ev_eq (k : Nat) (x0 : Dm (.pO S_TstTest)) (x1 : Dm (.pR S_DecDec)) : E_eq k (x0, x1, ()) =
 (bif (fitL x0.2.2.2.2 [x1]) then (some ((x0.1, (x0.2.1, (x0.2.2.1, (x0.2.2.2.1, (List.append x0.2.2.2.2 [x1]))))), ())) else none) := by kernel_rfl
theorem S_eq  {pre fn} (hev : Hq E_eq pre fn) : C_eq pre fn := sound tysOk mixed (fn := Tryz.f103) rfl rfl rfl ConsOk.nil _ hev
abbrev M_er : Lm := [.imm S_TstTest, .imm I, .imm .bool, .clo 103 [S_DecDec]]
abbrev R_er : Lr := [(.own, S_TstTest), (.imm, .bool)]
abbrev In_er := Iq M_er
abbrev Out_er := Oq R_er M_er
abbrev C_er := Cq 100 M_er R_er
section
variable (g_e1 : In_e1 -> Out_e1) (p_e1 : In_e1 -> Bool) (g_cv : In_cv -> Out_cv) (p_cv : In_cv -> Bool) (g_eq : In_eq -> Out_eq) (p_eq : In_eq -> Bool) (g_cu : In_cu -> Out_cu) (p_cu : In_cu -> Bool)
abbrev X_er : Ctx := ctx tys 33 (conOf [(163, ⟨M_e1, R_e1, p_e1, g_e1⟩), (88, ⟨M_cv, R_cv, p_cv, g_cv⟩), (103, ⟨M_eq, R_eq, p_eq, g_eq⟩), (156, ⟨M_cu, R_cu, p_cu, g_cu⟩)]) (keepOf []) nF
abbrev E_er := evFn (X_er g_e1 p_e1 g_cv p_cv g_eq p_eq g_cu p_cu) Tryz.f100 R_er M_er
variable {g_e1 p_e1 g_cv p_cv g_eq p_eq g_cu p_cu}
theorem ev_er (k : Nat) (x0 : Dm (.imm S_TstTest)) (x1 : Dm (.imm I)) (x2 : Dm (.imm .bool)) (x3 : Dm (.clo 103 [S_DecDec])) : E_er g_e1 p_e1 g_cv p_cv g_eq p_eq g_cu p_cu k (x0, x1, x2, x3, ()) =
 (cl (p_e1 (x0, ())) (g_e1 (x0, ())) fun y0 => (cl (p_cv (x0, ())) (g_cv (x0, ())) fun y1 => (bif (bif y1.1 then false else true) then (some (y0.1, (false, ()))) else (bif (bif (decide (x0.2.1 = x1)) then false else true) then (some (y0.1, (false, ()))) else (bif (bif x2 then false else true) then (some (y0.1, (false, ()))) else (cl (p_eq (y0.1, (x3.1, ()))) (g_eq (y0.1, (x3.1, ()))) fun y2 => (cl (p_cu (y2.1, ())) (g_cu (y2.1, ())) fun y3 => (some ((y2.1.1, (y3.1, y2.1.2.2)), (true, ())))))))))) := by kernel_rfl
theorem S_er (h_e1 : C_e1 p_e1 g_e1) (h_cv : C_cv p_cv g_cv) (h_eq : C_eq p_eq g_eq) (h_cu : C_cu p_cu g_cu) {pre fn} (hev : Hq (E_er g_e1 p_e1 g_cv p_cv g_eq p_eq g_cu p_cu) pre fn) : C_er pre fn := sound tysOk mixed (fn := Tryz.f100) rfl rfl rfl (.cons h_e1 (.cons h_cv (.cons h_eq (.cons h_cu .nil)))) _ hev
end
abbrev M_es : Lm := [.imm S_TstTest, .imm S_DecDec]
abbrev R_es : Lr := [(.own, S_TstTest), (.imm, .bool)]
abbrev In_es := Iq M_es
abbrev Out_es := Oq R_es M_es
abbrev C_es := Cq 44 M_es R_es
section
variable (g_ca : In_ca -> Out_ca) (g_er : In_er -> Out_er) (p_er : In_er -> Bool)
abbrev X_es : Ctx := ctx tys 13 (conOf [(75, ⟨M_ca, R_ca, fun _ => true, g_ca⟩), (100, ⟨M_er, R_er, p_er, g_er⟩)]) (keepOf []) nF
abbrev E_es := evFn (X_es g_ca g_er p_er) Tryz.f44 R_es M_es
variable {g_ca g_er p_er}
theorem ev_es (k : Nat) (x0 : Dm (.imm S_TstTest)) (x1 : Dm (.imm S_DecDec)) : E_es g_ca g_er p_er k (x0, x1, ()) =
 (cl (p_er (x0, ((2 : Int), ((g_ca (x1, ())).1, ((x1, ()), ()))))) (g_er (x0, ((2 : Int), ((g_ca (x1, ())).1, ((x1, ()), ()))))) fun y0 => (some (y0.1, (y0.2.1, ())))) := by kernel_rfl
theorem S_es (h_ca : C_ca (fun _ => true) g_ca) (h_er : C_er p_er g_er) {pre fn} (hev : Hq (E_es g_ca g_er p_er) pre fn) : C_es pre fn := sound tysOk mixed (fn := Tryz.f44) rfl rfl rfl (.cons h_ca (.cons h_er .nil)) _ hev
end
abbrev M_et : Lm := [.pO S_BatBatch, .pR I, .pR I, .pR S_DecDec, .pR I]
abbrev R_et : Lr := [(.imm, .bool)]
abbrev In_et := Iq M_et
abbrev Out_et := Oq R_et M_et
abbrev C_et := Cq 95 M_et R_et
section
variable (g_ej : In_ej -> Out_ej) (p_ej : In_ej -> Bool) (g_em : In_em -> Out_em) (p_em : In_em -> Bool) (g_ep : In_ep -> Out_ep) (p_ep : In_ep -> Bool) (g_es : In_es -> Out_es) (p_es : In_es -> Bool)
abbrev X_et : Ctx := ctx tys 62 (conOf [(96, ⟨M_ej, R_ej, p_ej, g_ej⟩), (42, ⟨M_em, R_em, p_em, g_em⟩), (43, ⟨M_ep, R_ep, p_ep, g_ep⟩), (44, ⟨M_es, R_es, p_es, g_es⟩)]) (keepOf []) nF
abbrev E_et := evFn (X_et g_ej p_ej g_em p_em g_ep p_ep g_es p_es) Tryz.f95 R_et M_et
variable {g_ej p_ej g_em p_em g_ep p_ep g_es p_es}
theorem ev_et (k : Nat) (x0 : Dm (.pO S_BatBatch)) (x1 : Dm (.pR I)) (x2 : Dm (.pR I)) (x3 : Dm (.pR S_DecDec)) (x4 : Dm (.pR I)) : E_et g_ej p_ej g_em p_em g_ep p_ep g_es p_es k (x0, x1, x2, x3, x4, ()) =
 (cl (p_ej (x0.2.2.1, ((x1, ()), ()))) (g_ej (x0.2.2.1, ((x1, ()), ()))) fun y0 => (lt (rdL (e := S_TstTest) x0.2.2.1 y0.1) fun s0 => (bif (decide (y0.1 < (0 : Int))) then (some (false, (x0, ()))) else (bif (bif (decide ((0 : Int) <= y0.1)) then (decide (y0.1 < (List.length x0.2.2.1 : Int))) else false) then (bif (decide (x2 = (1 : Int))) then (cl (p_em (s0, (x3, ()))) (g_em (s0, (x3, ()))) fun y1 => (some (y1.2.1, ((x0.1, (x0.2.1, ((List.set x0.2.2.1 (Int.toNat y0.1) y1.1), x0.2.2.2))), ())))) else (bif (decide (x2 = (2 : Int))) then (cl (p_ep (s0, (x4, ()))) (g_ep (s0, (x4, ()))) fun y2 => (some (y2.2.1, ((x0.1, (x0.2.1, ((List.set x0.2.2.1 (Int.toNat y0.1) y2.1), x0.2.2.2))), ())))) else (bif (decide (x2 = (3 : Int))) then (cl (p_es (s0, (x3, ()))) (g_es (s0, (x3, ()))) fun y3 => (some (y3.2.1, ((x0.1, (x0.2.1, ((List.set x0.2.2.1 (Int.toNat y0.1) y3.1), x0.2.2.2))), ())))) else (some (false, (x0, ())))))) else none)))) := by kernel_rfl
theorem S_et (h_ej : C_ej p_ej g_ej) (h_em : C_em p_em g_em) (h_ep : C_ep p_ep g_ep) (h_es : C_es p_es g_es) {pre fn} (hev : Hq (E_et g_ej p_ej g_em p_em g_ep p_ep g_es p_es) pre fn) : C_et pre fn := sound tysOk mixed (fn := Tryz.f95) rfl rfl rfl (.cons h_ej (.cons h_em (.cons h_ep (.cons h_es .nil)))) _ hev
end
abbrev M_eu : Lm := [.imm S_BatBatch, .clo 95 [I, I, S_DecDec, I]]
abbrev R_eu : Lr := [(.own, S_BatBatch), (.imm, .bool)]
abbrev In_eu := Iq M_eu
abbrev Out_eu := Oq R_eu M_eu
abbrev C_eu := Cq 83 M_eu R_eu
section
variable (g_e4 : In_e4 -> Out_e4) (p_e4 : In_e4 -> Bool) (g_de : In_de -> Out_de) (p_de : In_de -> Bool) (g_et : In_et -> Out_et) (p_et : In_et -> Bool)
abbrev X_eu : Ctx := ctx tys 23 (conOf [(104, ⟨M_e4, R_e4, p_e4, g_e4⟩), (34, ⟨M_de, R_de, p_de, g_de⟩), (95, ⟨M_et, R_et, p_et, g_et⟩)]) (keepOf []) nF
abbrev E_eu := evFn (X_eu g_e4 p_e4 g_de p_de g_et p_et) Tryz.f83 R_eu M_eu
variable {g_e4 p_e4 g_de p_de g_et p_et}
theorem ev_eu (k : Nat) (x0 : Dm (.imm S_BatBatch)) (x1 : Dm (.clo 95 [I, I, S_DecDec, I])) : E_eu g_e4 p_e4 g_de p_de g_et p_et k (x0, x1, ()) =
 (cl (p_e4 (x0, ())) (g_e4 (x0, ())) fun y0 => (cl (p_de (x0, ())) (g_de (x0, ())) fun y1 => (bif (bif y1.1 then false else true) then (some (y0.1, (false, ()))) else (bif (bif (decide (x0.2.2.2.1 = (1 : Int))) then false else true) then (some (y0.1, (false, ()))) else (cl (p_et (y0.1, (x1.1, (x1.2.1, (x1.2.2.1, (x1.2.2.2.1, ())))))) (g_et (y0.1, (x1.1, (x1.2.1, (x1.2.2.1, (x1.2.2.2.1, ())))))) fun y2 => (some (y2.2.1, (y2.1, ())))))))) := by kernel_rfl
theorem S_eu (h_e4 : C_e4 p_e4 g_e4) (h_de : C_de p_de g_de) (h_et : C_et p_et g_et) {pre fn} (hev : Hq (E_eu g_e4 p_e4 g_de p_de g_et p_et) pre fn) : C_eu pre fn := sound tysOk mixed (fn := Tryz.f83) rfl rfl rfl (.cons h_e4 (.cons h_de (.cons h_et .nil))) _ hev
end
abbrev M_ev : Lm := [.imm S_BatBatch, .imm I, .imm I, .imm S_DecDec, .imm I]
abbrev R_ev : Lr := [(.own, S_BatBatch), (.imm, .bool)]
abbrev In_ev := Iq M_ev
abbrev Out_ev := Oq R_ev M_ev
abbrev C_ev := Cq 39 M_ev R_ev
section
variable (g_eu : In_eu -> Out_eu) (p_eu : In_eu -> Bool)
abbrev X_ev : Ctx := ctx tys 17 (conOf [(83, ⟨M_eu, R_eu, p_eu, g_eu⟩)]) (keepOf []) nF
abbrev E_ev := evFn (X_ev g_eu p_eu) Tryz.f39 R_ev M_ev
variable {g_eu p_eu}
theorem ev_ev (k : Nat) (x0 : Dm (.imm S_BatBatch)) (x1 : Dm (.imm I)) (x2 : Dm (.imm I)) (x3 : Dm (.imm S_DecDec)) (x4 : Dm (.imm I)) : E_ev g_eu p_eu k (x0, x1, x2, x3, x4, ()) =
 (cl (p_eu (x0, ((x1, (x2, (x3, (x4, ())))), ()))) (g_eu (x0, ((x1, (x2, (x3, (x4, ())))), ()))) fun y0 => (some (y0.1, (y0.2.1, ())))) := by kernel_rfl
theorem S_ev (h_eu : C_eu p_eu g_eu) {pre fn} (hev : Hq (E_ev g_eu p_eu) pre fn) : C_ev pre fn := sound tysOk mixed (fn := Tryz.f39) rfl rfl rfl (.cons h_eu .nil) _ hev
end
abbrev M_ew : Lm := [.pO S_BatBatch, .pR .bool, .pR I]
abbrev R_ew : Lr := [(.imm, .bool)]
abbrev In_ew := Iq M_ew
abbrev Out_ew := Oq R_ew M_ew
abbrev C_ew := Cq 92 M_ew R_ew
section
variable (g_iin : In_iin -> Out_iin)
abbrev X_ew : Ctx := ctx tys 55 (conOf [(65, ⟨M_iin, R_iin, fun _ => true, g_iin⟩)]) (keepOf []) nF
abbrev E_ew := evFn (X_ew g_iin) Tryz.f92 R_ew M_ew
variable {g_iin}
theorem ev_ew (k : Nat) (x0 : Dm (.pO S_BatBatch)) (x1 : Dm (.pR .bool)) (x2 : Dm (.pR I)) : E_ew g_iin k (x0, x1, x2, ()) =
 (bif x1 then (bif (decide (x2 = (List.length x0.2.2.2.2.2 : Int))) then (bif (decide (x2 < (3 : Int))) then (bif (fitL x0.2.2.2.2.2 [true]) then (some (true, ((x0.1, (x0.2.1, (x0.2.2.1, (x0.2.2.2.1, (x0.2.2.2.2.1, (List.append x0.2.2.2.2.2 [true])))))), ()))) else none) else (bif (bif x1 then false else true) then (bif (g_iin (x2, ((0 : Int), ((w64 ((List.length x0.2.2.2.2.2 : Int) - (1 : Int))), ())))).1 then (bif (bif (decide ((0 : Int) <= x2)) then (decide (x2 < (List.length x0.2.2.2.2.2 : Int))) else false) then (bif (rdL (e := Sh.bool) x0.2.2.2.2.2 x2) then (bif (bif (decide ((0 : Int) <= x2)) then (decide (x2 < (List.length x0.2.2.2.2.2 : Int))) else false) then (some (true, ((x0.1, (x0.2.1, (x0.2.2.1, (x0.2.2.2.1, (x0.2.2.2.2.1, (List.set x0.2.2.2.2.2 (Int.toNat x2) false)))))), ()))) else none) else (some (false, (x0, ())))) else none) else (some (false, (x0, ())))) else (some (false, (x0, ()))))) else (bif (bif x1 then false else true) then (bif (g_iin (x2, ((0 : Int), ((w64 ((List.length x0.2.2.2.2.2 : Int) - (1 : Int))), ())))).1 then (bif (bif (decide ((0 : Int) <= x2)) then (decide (x2 < (List.length x0.2.2.2.2.2 : Int))) else false) then (bif (rdL (e := Sh.bool) x0.2.2.2.2.2 x2) then (bif (bif (decide ((0 : Int) <= x2)) then (decide (x2 < (List.length x0.2.2.2.2.2 : Int))) else false) then (some (true, ((x0.1, (x0.2.1, (x0.2.2.1, (x0.2.2.2.1, (x0.2.2.2.2.1, (List.set x0.2.2.2.2.2 (Int.toNat x2) false)))))), ()))) else none) else (some (false, (x0, ())))) else none) else (some (false, (x0, ())))) else (some (false, (x0, ()))))) else (bif (bif x1 then false else true) then (bif (g_iin (x2, ((0 : Int), ((w64 ((List.length x0.2.2.2.2.2 : Int) - (1 : Int))), ())))).1 then (bif (bif (decide ((0 : Int) <= x2)) then (decide (x2 < (List.length x0.2.2.2.2.2 : Int))) else false) then (bif (rdL (e := Sh.bool) x0.2.2.2.2.2 x2) then (bif (bif (decide ((0 : Int) <= x2)) then (decide (x2 < (List.length x0.2.2.2.2.2 : Int))) else false) then (some (true, ((x0.1, (x0.2.1, (x0.2.2.1, (x0.2.2.2.1, (x0.2.2.2.2.1, (List.set x0.2.2.2.2.2 (Int.toNat x2) false)))))), ()))) else none) else (some (false, (x0, ())))) else none) else (some (false, (x0, ())))) else (some (false, (x0, ()))))) := by kernel_rfl
theorem S_ew (h_iin : C_iin (fun _ => true) g_iin) {pre fn} (hev : Hq (E_ew g_iin) pre fn) : C_ew pre fn := sound tysOk mixed (fn := Tryz.f92) rfl rfl rfl (.cons h_iin .nil) _ hev
end
abbrev M_ex : Lm := [.imm S_BatBatch, .clo 92 [.bool, I]]
abbrev R_ex : Lr := [(.own, S_BatBatch), (.imm, .bool)]
abbrev In_ex := Iq M_ex
abbrev Out_ex := Oq R_ex M_ex
abbrev C_ex := Cq 83 M_ex R_ex
section
variable (g_e4 : In_e4 -> Out_e4) (p_e4 : In_e4 -> Bool) (g_de : In_de -> Out_de) (p_de : In_de -> Bool) (g_ew : In_ew -> Out_ew) (p_ew : In_ew -> Bool)
abbrev X_ex : Ctx := ctx tys 23 (conOf [(104, ⟨M_e4, R_e4, p_e4, g_e4⟩), (34, ⟨M_de, R_de, p_de, g_de⟩), (92, ⟨M_ew, R_ew, p_ew, g_ew⟩)]) (keepOf []) nF
abbrev E_ex := evFn (X_ex g_e4 p_e4 g_de p_de g_ew p_ew) Tryz.f83 R_ex M_ex
variable {g_e4 p_e4 g_de p_de g_ew p_ew}
theorem ev_ex (k : Nat) (x0 : Dm (.imm S_BatBatch)) (x1 : Dm (.clo 92 [.bool, I])) : E_ex g_e4 p_e4 g_de p_de g_ew p_ew k (x0, x1, ()) =
 (cl (p_e4 (x0, ())) (g_e4 (x0, ())) fun y0 => (cl (p_de (x0, ())) (g_de (x0, ())) fun y1 => (bif (bif y1.1 then false else true) then (some (y0.1, (false, ()))) else (bif (bif (decide (x0.2.2.2.1 = (1 : Int))) then false else true) then (some (y0.1, (false, ()))) else (cl (p_ew (y0.1, (x1.1, (x1.2.1, ())))) (g_ew (y0.1, (x1.1, (x1.2.1, ())))) fun y2 => (some (y2.2.1, (y2.1, ())))))))) := by kernel_rfl
theorem S_ex (h_e4 : C_e4 p_e4 g_e4) (h_de : C_de p_de g_de) (h_ew : C_ew p_ew g_ew) {pre fn} (hev : Hq (E_ex g_e4 p_e4 g_de p_de g_ew p_ew) pre fn) : C_ex pre fn := sound tysOk mixed (fn := Tryz.f83) rfl rfl rfl (.cons h_e4 (.cons h_de (.cons h_ew .nil))) _ hev
end
abbrev M_ey : Lm := [.imm S_BatBatch, .imm I, .imm .bool]
abbrev R_ey : Lr := [(.own, S_BatBatch), (.imm, .bool)]
abbrev In_ey := Iq M_ey
abbrev Out_ey := Oq R_ey M_ey
abbrev C_ey := Cq 36 M_ey R_ey
section
variable (g_ex : In_ex -> Out_ex) (p_ex : In_ex -> Bool)
abbrev X_ey : Ctx := ctx tys 13 (conOf [(83, ⟨M_ex, R_ex, p_ex, g_ex⟩)]) (keepOf []) nF
abbrev E_ey := evFn (X_ey g_ex p_ex) Tryz.f36 R_ey M_ey
variable {g_ex p_ex}
theorem ev_ey (k : Nat) (x0 : Dm (.imm S_BatBatch)) (x1 : Dm (.imm I)) (x2 : Dm (.imm .bool)) : E_ey g_ex p_ex k (x0, x1, x2, ()) =
 (cl (p_ex (x0, ((x2, (x1, ())), ()))) (g_ex (x0, ((x2, (x1, ())), ()))) fun y0 => (some (y0.1, (y0.2.1, ())))) := by kernel_rfl
theorem S_ey (h_ex : C_ex p_ex g_ex) {pre fn} (hev : Hq (E_ey g_ex p_ex) pre fn) : C_ey pre fn := sound tysOk mixed (fn := Tryz.f36) rfl rfl rfl (.cons h_ex .nil) _ hev
end
abbrev M_ez : Lm := [.pO S_BatBatch, .pR I, .pR I, .pR S_BatBatch]
abbrev R_ez : Lr := [(.imm, .bool)]
abbrev In_ez := Iq M_ez
abbrev Out_ez := Oq R_ez M_ez
abbrev C_ez := Cq 84 M_ez R_ez
section
variable (g_cw : In_cw -> Out_cw) (g_cx : In_cx -> Out_cx) (g_d8 : In_d8 -> Out_d8) (p_d8 : In_d8 -> Bool)
abbrev X_ez : Ctx := ctx tys 36 (conOf [(77, ⟨M_cw, R_cw, fun _ => true, g_cw⟩), (85, ⟨M_cx, R_cx, fun _ => true, g_cx⟩), (29, ⟨M_d8, R_d8, p_d8, g_d8⟩)]) (keepOf []) nF
abbrev E_ez := evFn (X_ez g_cw g_cx g_d8 p_d8) Tryz.f84 R_ez M_ez
variable {g_cw g_cx g_d8 p_d8}
theorem ev_ez (k : Nat) (x0 : Dm (.pO S_BatBatch)) (x1 : Dm (.pR I)) (x2 : Dm (.pR I)) (x3 : Dm (.pR S_BatBatch)) : E_ez g_cw g_cx g_d8 p_d8 k (x0, x1, x2, x3, ()) =
 (bif (bif (g_cw (x1, ())).1 then false else true) then (some (false, (x0, ()))) else (bif (bif (g_cx (x2, ())).1 then false else true) then (some (false, (x0, ()))) else (bif (decide ((List.length x0.2.2.2.2.1 : Int) = (6 : Int))) then (some (false, (x0, ()))) else (cl (p_d8 (x3, ())) (g_d8 (x3, ())) fun y0 => (bif (fitL x0.2.2.2.2.1 [(x1, (x2, y0.1))]) then (some (true, ((x0.1, (x0.2.1, (x0.2.2.1, (x0.2.2.2.1, ((List.append x0.2.2.2.2.1 [(x1, (x2, y0.1))]), x0.2.2.2.2.2))))), ()))) else none))))) := by kernel_rfl
theorem S_ez (h_cw : C_cw (fun _ => true) g_cw) (h_cx : C_cx (fun _ => true) g_cx) (h_d8 : C_d8 p_d8 g_d8) {pre fn} (hev : Hq (E_ez g_cw g_cx g_d8 p_d8) pre fn) : C_ez pre fn := sound tysOk mixed (fn := Tryz.f84) rfl rfl rfl (.cons h_cw (.cons h_cx (.cons h_d8 .nil))) _ hev
end
abbrev M_f0 : Lm := [.imm S_BatBatch, .clo 84 [I, I, S_BatBatch]]
abbrev R_f0 : Lr := [(.own, S_BatBatch), (.imm, .bool)]
abbrev In_f0 := Iq M_f0
abbrev Out_f0 := Oq R_f0 M_f0
abbrev C_f0 := Cq 83 M_f0 R_f0
section
variable (g_e4 : In_e4 -> Out_e4) (p_e4 : In_e4 -> Bool) (g_de : In_de -> Out_de) (p_de : In_de -> Bool) (g_ez : In_ez -> Out_ez) (p_ez : In_ez -> Bool)
abbrev X_f0 : Ctx := ctx tys 23 (conOf [(104, ⟨M_e4, R_e4, p_e4, g_e4⟩), (34, ⟨M_de, R_de, p_de, g_de⟩), (84, ⟨M_ez, R_ez, p_ez, g_ez⟩)]) (keepOf []) nF
abbrev E_f0 := evFn (X_f0 g_e4 p_e4 g_de p_de g_ez p_ez) Tryz.f83 R_f0 M_f0
variable {g_e4 p_e4 g_de p_de g_ez p_ez}
theorem ev_f0 (k : Nat) (x0 : Dm (.imm S_BatBatch)) (x1 : Dm (.clo 84 [I, I, S_BatBatch])) : E_f0 g_e4 p_e4 g_de p_de g_ez p_ez k (x0, x1, ()) =
 (cl (p_e4 (x0, ())) (g_e4 (x0, ())) fun y0 => (cl (p_de (x0, ())) (g_de (x0, ())) fun y1 => (bif (bif y1.1 then false else true) then (some (y0.1, (false, ()))) else (bif (bif (decide (x0.2.2.2.1 = (1 : Int))) then false else true) then (some (y0.1, (false, ()))) else (cl (p_ez (y0.1, (x1.1, (x1.2.1, (x1.2.2.1, ()))))) (g_ez (y0.1, (x1.1, (x1.2.1, (x1.2.2.1, ()))))) fun y2 => (some (y2.2.1, (y2.1, ())))))))) := by kernel_rfl
theorem S_f0 (h_e4 : C_e4 p_e4 g_e4) (h_de : C_de p_de g_de) (h_ez : C_ez p_ez g_ez) {pre fn} (hev : Hq (E_f0 g_e4 p_e4 g_de p_de g_ez p_ez) pre fn) : C_f0 pre fn := sound tysOk mixed (fn := Tryz.f83) rfl rfl rfl (.cons h_e4 (.cons h_de (.cons h_ez .nil))) _ hev
end
abbrev M_f1 : Lm := [.imm S_BatBatch, .imm I, .imm I]
abbrev R_f1 : Lr := [(.own, S_BatBatch), (.imm, .bool)]
abbrev In_f1 := Iq M_f1
abbrev Out_f1 := Oq R_f1 M_f1
abbrev C_f1 := Cq 31 M_f1 R_f1
section
variable (g_f0 : In_f0 -> Out_f0) (p_f0 : In_f0 -> Bool)
abbrev X_f1 : Ctx := ctx tys 13 (conOf [(83, ⟨M_f0, R_f0, p_f0, g_f0⟩)]) (keepOf []) nF
abbrev E_f1 := evFn (X_f1 g_f0 p_f0) Tryz.f31 R_f1 M_f1
variable {g_f0 p_f0}
theorem ev_f1 (k : Nat) (x0 : Dm (.imm S_BatBatch)) (x1 : Dm (.imm I)) (x2 : Dm (.imm I)) : E_f1 g_f0 p_f0 k (x0, x1, x2, ()) =
 (cl (p_f0 (x0, ((x1, (x2, (x0, ()))), ()))) (g_f0 (x0, ((x1, (x2, (x0, ()))), ()))) fun y0 => (some (y0.1, (y0.2.1, ())))) := by kernel_rfl
theorem S_f1 (h_f0 : C_f0 p_f0 g_f0) {pre fn} (hev : Hq (E_f1 g_f0 p_f0) pre fn) : C_f1 pre fn := sound tysOk mixed (fn := Tryz.f31) rfl rfl rfl (.cons h_f0 .nil) _ hev
end
abbrev M_f2 : Lm := [.imm S_BatBatch, .imm I]
abbrev R_f2 : Lr := [(.own, S_BatBatch), (.imm, .bool)]
abbrev In_f2 := Iq M_f2
abbrev Out_f2 := Oq R_f2 M_f2
abbrev C_f2 := Cq 45 M_f2 R_f2
section
variable (g_e4 : In_e4 -> Out_e4) (p_e4 : In_e4 -> Bool) (g_dd : In_dd -> Out_dd) (p_dd : In_dd -> Bool) (g_de : In_de -> Out_de) (p_de : In_de -> Bool)
abbrev X_f2 : Ctx := ctx tys 45 (conOf [(104, ⟨M_e4, R_e4, p_e4, g_e4⟩), (79, ⟨M_dd, R_dd, p_dd, g_dd⟩), (34, ⟨M_de, R_de, p_de, g_de⟩)]) (keepOf []) nF
abbrev E_f2 := evFn (X_f2 g_e4 p_e4 g_dd p_dd g_de p_de) Tryz.f45 R_f2 M_f2
variable {g_e4 p_e4 g_dd p_dd g_de p_de}
theorem ev_f2 (k : Nat) (x0 : Dm (.imm S_BatBatch)) (x1 : Dm (.imm I)) : E_f2 g_e4 p_e4 g_dd p_dd g_de p_de k (x0, x1, ()) =
 (cl (p_e4 (x0, ())) (g_e4 (x0, ())) fun y0 => (bif (decide (x0.2.2.2.1 = (1 : Int))) then (bif (decide (x1 = (3 : Int))) then (cl (p_de (x0, ())) (g_de (x0, ())) fun y1 => (bif (bif y1.1 then false else true) then (some (y0.1, (false, ()))) else (some ((y0.1.1, (y0.1.2.1, (y0.1.2.2.1, (x1, y0.1.2.2.2.2)))), (true, ()))))) else (bif (decide (x1 = (2 : Int))) then (cl (p_dd (x0, ())) (g_dd (x0, ())) fun y2 => (bif y2.1 then (cl (p_de (x0, ())) (g_de (x0, ())) fun y3 => (bif (bif y3.1 then false else true) then (some (y0.1, (false, ()))) else (some ((y0.1.1, (y0.1.2.1, (y0.1.2.2.1, (x1, y0.1.2.2.2.2)))), (true, ()))))) else (bif (decide (x0.2.2.2.1 = (2 : Int))) then (cl (p_de (x0, ())) (g_de (x0, ())) fun y4 => (bif (bif y4.1 then false else true) then (some (y0.1, (false, ()))) else (bif (bif (decide (x1 = (4 : Int))) then false else true) then (some (y0.1, (false, ()))) else (some ((y0.1.1, (y0.1.2.1, (y0.1.2.2.1, (x1, y0.1.2.2.2.2)))), (true, ())))))) else (cl (p_de (x0, ())) (g_de (x0, ())) fun y5 => (bif (bif y5.1 then false else true) then (some (y0.1, (false, ()))) else (some (y0.1, (false, ())))))))) else (bif (decide (x0.2.2.2.1 = (2 : Int))) then (cl (p_de (x0, ())) (g_de (x0, ())) fun y6 => (bif (bif y6.1 then false else true) then (some (y0.1, (false, ()))) else (bif (bif (decide (x1 = (4 : Int))) then false else true) then (some (y0.1, (false, ()))) else (some ((y0.1.1, (y0.1.2.1, (y0.1.2.2.1, (x1, y0.1.2.2.2.2)))), (true, ())))))) else (cl (p_de (x0, ())) (g_de (x0, ())) fun y7 => (bif (bif y7.1 then false else true) then (some (y0.1, (false, ()))) else (some (y0.1, (false, ())))))))) else (bif (decide (x0.2.2.2.1 = (2 : Int))) then (cl (p_de (x0, ())) (g_de (x0, ())) fun y8 => (bif (bif y8.1 then false else true) then (some (y0.1, (false, ()))) else (bif (bif (decide (x1 = (4 : Int))) then false else true) then (some (y0.1, (false, ()))) else (some ((y0.1.1, (y0.1.2.1, (y0.1.2.2.1, (x1, y0.1.2.2.2.2)))), (true, ())))))) else (cl (p_de (x0, ())) (g_de (x0, ())) fun y9 => (bif (bif y9.1 then false else true) then (some (y0.1, (false, ()))) else (some (y0.1, (false, ())))))))) := by kernel_rfl
theorem S_f2 (h_e4 : C_e4 p_e4 g_e4) (h_dd : C_dd p_dd g_dd) (h_de : C_de p_de g_de) {pre fn} (hev : Hq (E_f2 g_e4 p_e4 g_dd p_dd g_de p_de) pre fn) : C_f2 pre fn := sound tysOk mixed (fn := Tryz.f45) rfl rfl rfl (.cons h_e4 (.cons h_dd (.cons h_de .nil))) _ hev
end
abbrev M_f3 : Lm := [.pO S_HouHouse, .imm S_ReqReq]
abbrev R_f3 : Lr := [(.imm, I)]
abbrev In_f3 := Iq M_f3
abbrev Out_f3 := Oq R_f3 M_f3
abbrev C_f3 := Cq 131 M_f3 R_f3
section
variable (g_ev : In_ev -> Out_ev) (p_ev : In_ev -> Bool) (g_ey : In_ey -> Out_ey) (p_ey : In_ey -> Bool) (g_f1 : In_f1 -> Out_f1) (p_f1 : In_f1 -> Bool) (g_f2 : In_f2 -> Out_f2) (p_f2 : In_f2 -> Bool) (g_ea : In_ea -> Out_ea)
abbrev X_f3 : Ctx := ctx tys 156 (conOf [(39, ⟨M_ev, R_ev, p_ev, g_ev⟩), (36, ⟨M_ey, R_ey, p_ey, g_ey⟩), (31, ⟨M_f1, R_f1, p_f1, g_f1⟩), (45, ⟨M_f2, R_f2, p_f2, g_f2⟩), (128, ⟨M_ea, R_ea, fun _ => true, g_ea⟩)]) (keepOf []) nF
abbrev E_f3 := evFn (X_f3 g_ev p_ev g_ey p_ey g_f1 p_f1 g_f2 p_f2 g_ea) Tryz.f131 R_f3 M_f3
variable {g_ev p_ev g_ey p_ey g_f1 p_f1 g_f2 p_f2 g_ea}
theorem ev_f3 (k : Nat) (x0 : Dm (.pO S_HouHouse)) (x1 : Dm (.imm S_ReqReq)) : E_f3 g_ev p_ev g_ey p_ey g_f1 p_f1 g_f2 p_f2 g_ea k (x0, x1, ()) =
 (lt (rdL (e := S_BatBatch) x0.2.2 x1.2.2.1) fun s1 => (lt (w64 (x1.1 - (1 : Int))) fun s0 => (bif (decide ((List.length x0.2.2 : Int) <= x1.2.2.1)) then (some ((3 : Int), (x0, ()))) else (bif (bif (decide ((0 : Int) <= x1.2.2.1)) then (decide (x1.2.2.1 < (List.length x0.2.2 : Int))) else false) then (bif (decide (x1.2.1 = (4 : Int))) then (cl (p_ev (s1, (x1.2.2.2.1, ((1 : Int), (x1.2.2.2.2.2.1, ((0 : Int), ())))))) (g_ev (s1, (x1.2.2.2.1, ((1 : Int), (x1.2.2.2.2.2.1, ((0 : Int), ())))))) fun y0 => (some ((g_ea (y0.2.1, ((5 : Int), ()))).1, ((x0.1, (x0.2.1, (List.set x0.2.2 (Int.toNat x1.2.2.1) y0.1))), ())))) else (bif (decide (x1.2.1 = (5 : Int))) then (cl (p_ev (s1, (x1.2.2.2.1, ((2 : Int), (((0 : Int), (0 : Int)), (x1.2.2.2.2.1, ())))))) (g_ev (s1, (x1.2.2.2.1, ((2 : Int), (((0 : Int), (0 : Int)), (x1.2.2.2.2.1, ())))))) fun y1 => (some ((g_ea (y1.2.1, ((5 : Int), ()))).1, ((x0.1, (x0.2.1, (List.set x0.2.2 (Int.toNat x1.2.2.1) y1.1))), ())))) else (bif (decide (x1.2.1 = (6 : Int))) then (cl (p_ev (s1, (x1.2.2.2.1, ((3 : Int), (x1.2.2.2.2.2.1, ((0 : Int), ())))))) (g_ev (s1, (x1.2.2.2.1, ((3 : Int), (x1.2.2.2.2.2.1, ((0 : Int), ())))))) fun y2 => (some ((g_ea (y2.2.1, ((5 : Int), ()))).1, ((x0.1, (x0.2.1, (List.set x0.2.2 (Int.toNat x1.2.2.1) y2.1))), ())))) else (bif (decide (x1.2.1 = (7 : Int))) then (cl (p_ey (s1, ((List.length s1.2.2.2.2.2 : Int), (true, ())))) (g_ey (s1, ((List.length s1.2.2.2.2.2 : Int), (true, ())))) fun y3 => (some ((g_ea (y3.2.1, ((5 : Int), ()))).1, ((x0.1, (x0.2.1, (List.set x0.2.2 (Int.toNat x1.2.2.1) y3.1))), ())))) else (bif (decide (x1.2.1 = (8 : Int))) then (cl (p_ey (s1, (x1.2.2.2.2.1, (false, ())))) (g_ey (s1, (x1.2.2.2.2.1, (false, ())))) fun y4 => (some ((g_ea (y4.2.1, ((5 : Int), ()))).1, ((x0.1, (x0.2.1, (List.set x0.2.2 (Int.toNat x1.2.2.1) y4.1))), ())))) else (bif (decide (x1.2.1 = (9 : Int))) then (bif (bif (decide ((0 : Int) <= s0)) then (decide (s0 < (List.length x0.1 : Int))) else false) then (cl (p_f1 (s1, (x1.1, ((rdL (e := I) x0.1 s0), ())))) (g_f1 (s1, (x1.1, ((rdL (e := I) x0.1 s0), ())))) fun y5 => (some ((g_ea (y5.2.1, ((5 : Int), ()))).1, ((x0.1, (x0.2.1, (List.set x0.2.2 (Int.toNat x1.2.2.1) y5.1))), ())))) else none) else (bif (decide (x1.2.1 = (10 : Int))) then (cl (p_f2 (s1, ((2 : Int), ()))) (g_f2 (s1, ((2 : Int), ()))) fun y6 => (some ((g_ea (y6.2.1, ((5 : Int), ()))).1, ((x0.1, (x0.2.1, (List.set x0.2.2 (Int.toNat x1.2.2.1) y6.1))), ())))) else (bif (decide (x1.2.1 = (11 : Int))) then (cl (p_f2 (s1, ((3 : Int), ()))) (g_f2 (s1, ((3 : Int), ()))) fun y7 => (some ((g_ea (y7.2.1, ((5 : Int), ()))).1, ((x0.1, (x0.2.1, (List.set x0.2.2 (Int.toNat x1.2.2.1) y7.1))), ())))) else (bif (decide (x1.2.1 = (12 : Int))) then (cl (p_f2 (s1, ((4 : Int), ()))) (g_f2 (s1, ((4 : Int), ()))) fun y8 => (some ((g_ea (y8.2.1, ((5 : Int), ()))).1, ((x0.1, (x0.2.1, (List.set x0.2.2 (Int.toNat x1.2.2.1) y8.1))), ())))) else (some ((g_ea (false, ((5 : Int), ()))).1, (x0, ())))))))))))) else none)))) := by kernel_rfl
theorem S_f3 (h_ev : C_ev p_ev g_ev) (h_ey : C_ey p_ey g_ey) (h_f1 : C_f1 p_f1 g_f1) (h_f2 : C_f2 p_f2 g_f2) (h_ea : C_ea (fun _ => true) g_ea) {pre fn} (hev : Hq (E_f3 g_ev p_ev g_ey p_ey g_f1 p_f1 g_f2 p_f2 g_ea) pre fn) : C_f3 pre fn := sound tysOk mixed (fn := Tryz.f131) rfl rfl rfl (.cons h_ev (.cons h_ey (.cons h_f1 (.cons h_f2 (.cons h_ea .nil))))) _ hev
end
abbrev M_f4 : Lm := [.pO S_HouHouse, .imm S_ReqReq]
abbrev R_f4 : Lr := [(.imm, I)]
abbrev In_f4 := Iq M_f4
abbrev Out_f4 := Oq R_f4 M_f4
abbrev C_f4 := Cq 61 M_f4 R_f4
section
variable (g_e8 : In_e8 -> Out_e8) (g_e9 : In_e9 -> Out_e9) (p_e9 : In_e9 -> Bool) (g_ea : In_ea -> Out_ea) (g_ee : In_ee -> Out_ee) (p_ee : In_ee -> Bool) (g_eh : In_eh -> Out_eh) (p_eh : In_eh -> Bool) (g_f3 : In_f3 -> Out_f3) (p_f3 : In_f3 -> Bool)
abbrev X_f4 : Ctx := ctx tys 82 (conOf [(52, ⟨M_e8, R_e8, fun _ => true, g_e8⟩), (127, ⟨M_e9, R_e9, p_e9, g_e9⟩), (128, ⟨M_ea, R_ea, fun _ => true, g_ea⟩), (129, ⟨M_ee, R_ee, p_ee, g_ee⟩), (130, ⟨M_eh, R_eh, p_eh, g_eh⟩), (131, ⟨M_f3, R_f3, p_f3, g_f3⟩)]) (keepOf []) nF
abbrev E_f4 := evFn (X_f4 g_e8 g_e9 p_e9 g_ea g_ee p_ee g_eh p_eh g_f3 p_f3) Tryz.f61 R_f4 M_f4
variable {g_e8 g_e9 p_e9 g_ea g_ee p_ee g_eh p_eh g_f3 p_f3}
theorem ev_f4 (k : Nat) (x0 : Dm (.pO S_HouHouse)) (x1 : Dm (.imm S_ReqReq)) : E_f4 g_e8 g_e9 p_e9 g_ea g_ee p_ee g_eh p_eh g_f3 p_f3 k (x0, x1, ()) =
 (bif (decide ((List.length x0.1 : Int) < x1.1)) then (some ((2 : Int), (x0, ()))) else (bif (bif (decide ((0 : Int) <= (w64 (x1.1 - (1 : Int))))) then (decide ((w64 (x1.1 - (1 : Int))) < (List.length x0.1 : Int))) else false) then (bif (bif (g_e8 ((rdL (e := I) x0.1 (w64 (x1.1 - (1 : Int)))), (x1.2.1, ()))).1 then false else true) then (some ((2 : Int), (x0, ()))) else (bif (decide (x1.2.1 = (1 : Int))) then (cl (p_e9 (x0.2.1, (x1.2.2.2.2.2.2, ()))) (g_e9 (x0.2.1, (x1.2.2.2.2.2.2, ()))) fun y0 => (some ((g_ea (y0.2.1, ((6 : Int), ()))).1, ((x0.1, (y0.1, x0.2.2)), ())))) else (bif (decide (x1.2.1 = (2 : Int))) then (bif (decide ((List.length x0.2.1 : Int) <= x1.2.2.2.2.1)) then (some ((4 : Int), (x0, ()))) else (cl (p_ee (x0.2.1, (x1.2.2.2.2.1, ()))) (g_ee (x0.2.1, (x1.2.2.2.2.1, ()))) fun y1 => (some ((g_ea (y1.2.1, ((5 : Int), ()))).1, ((x0.1, (y1.1, x0.2.2)), ()))))) else (bif (decide (x1.2.1 = (3 : Int))) then (cl (p_eh (x0, (x1.2.2.2.2.1, ()))) (g_eh (x0, (x1.2.2.2.2.1, ()))) fun y2 => (some (y2.1, (y2.2.1, ())))) else (cl (p_f3 (x0, (x1, ()))) (g_f3 (x0, (x1, ()))) fun y3 => (some (y3.1, (y3.2.1, ())))))))) else none)) := by kernel_rfl
theorem S_f4 (h_e8 : C_e8 (fun _ => true) g_e8) (h_e9 : C_e9 p_e9 g_e9) (h_ea : C_ea (fun _ => true) g_ea) (h_ee : C_ee p_ee g_ee) (h_eh : C_eh p_eh g_eh) (h_f3 : C_f3 p_f3 g_f3) {pre fn} (hev : Hq (E_f4 g_e8 g_e9 p_e9 g_ea g_ee p_ee g_eh p_eh g_f3 p_f3) pre fn) : C_f4 pre fn := sound tysOk mixed (fn := Tryz.f61) rfl rfl rfl (.cons h_e8 (.cons h_e9 (.cons h_ea (.cons h_ee (.cons h_eh (.cons h_f3 .nil)))))) _ hev
end
abbrev M_f5 : Lm := [.imm S_HouHouse, .imm S_ReqReq]
abbrev R_f5 : Lr := [(.own, S_HouHouse), (.imm, I)]
abbrev In_f5 := Iq M_f5
abbrev Out_f5 := Oq R_f5 M_f5
abbrev C_f5 := Cq 16 M_f5 R_f5
section
variable (g_dn : In_dn -> Out_dn) (p_dn : In_dn -> Bool) (g_dw : In_dw -> Out_dw) (p_dw : In_dw -> Bool) (g_e5 : In_e5 -> Out_e5) (p_e5 : In_e5 -> Bool) (g_f4 : In_f4 -> Out_f4) (p_f4 : In_f4 -> Bool)
abbrev X_f5 : Ctx := ctx tys 23 (conOf [(50, ⟨M_dn, R_dn, p_dn, g_dn⟩), (24, ⟨M_dw, R_dw, p_dw, g_dw⟩), (60, ⟨M_e5, R_e5, p_e5, g_e5⟩), (61, ⟨M_f4, R_f4, p_f4, g_f4⟩)]) (keepOf []) nF
abbrev E_f5 := evFn (X_f5 g_dn p_dn g_dw p_dw g_e5 p_e5 g_f4 p_f4) Tryz.f16 R_f5 M_f5
variable {g_dn p_dn g_dw p_dw g_e5 p_e5 g_f4 p_f4}
theorem ev_f5 (k : Nat) (x0 : Dm (.imm S_HouHouse)) (x1 : Dm (.imm S_ReqReq)) : E_f5 g_dn p_dn g_dw p_dw g_e5 p_e5 g_f4 p_f4 k (x0, x1, ()) =
 (cl (p_dn (x0, ())) (g_dn (x0, ())) fun y0 => (bif (bif y0.1 then false else true) then (some (([], ([], [])), ((0 : Int), ()))) else (cl (p_dw (x1, ())) (g_dw (x1, ())) fun y1 => (bif (bif y1.1 then false else true) then (some (([], ([], [])), ((0 : Int), ()))) else (cl (p_e5 (x0, ())) (g_e5 (x0, ())) fun y2 => (cl (p_f4 (y2.1, (x1, ()))) (g_f4 (y2.1, (x1, ()))) fun y3 => (some (y3.2.1, (y3.1, ()))))))))) := by kernel_rfl
theorem S_f5 (h_dn : C_dn p_dn g_dn) (h_dw : C_dw p_dw g_dw) (h_e5 : C_e5 p_e5 g_e5) (h_f4 : C_f4 p_f4 g_f4) {pre fn} (hev : Hq (E_f5 g_dn p_dn g_dw p_dw g_e5 p_e5 g_f4 p_f4) pre fn) : C_f5 pre fn := sound tysOk mixed (fn := Tryz.f16) rfl rfl rfl (.cons h_dn (.cons h_dw (.cons h_e5 (.cons h_f4 .nil)))) _ hev
end
abbrev M_f6 : Lm := [.imm L_int, .imm S_BatBatch]
abbrev R_f6 : Lr := [(.imm, .bool)]
abbrev In_f6 := Iq M_f6
abbrev Out_f6 := Oq R_f6 M_f6
abbrev C_f6 := Cq 112 M_f6 R_f6
abbrev X_f6 : Ctx := ctx tys 41 (conOf []) (keepOf [(pt1, (⟨[(0, .asis), (3, .asis), (5, .asis)], [(3, .asis)], []⟩ : Keep))]) nF
abbrev E_f6 := evFn X_f6 Tryz.f112 R_f6 M_f6
def h0_f6 (x0 : Dm (.imm L_int)) (x1 : Dm (.imm S_BatBatch)) (h0 : Dn I) : St := mkS [(0, (AV.val L_int x0)), (3, (AV.ptr 3 none [])), (5, (AV.val I h0))] [(3, (Ob.box S_BatBatch (AV.val S_BatBatch x1)))]
def r_f6 := rounds X_f6 Tryz.f112 R_f6 M_f6
theorem ev_f6 (k : Nat) (x0 : Dm (.imm L_int)) (x1 : Dm (.imm S_BatBatch)) : E_f6 k (x0, x1, ()) =
 (r_f6  (x0, x1, ()) k pt1 (h0_f6 x0 x1 (0 : Int))) := by kernel_rfl
theorem rd0_f6 (k : Nat) (x0 : Dm (.imm L_int)) (x1 : Dm (.imm S_BatBatch)) (h0 : Dn I) : r_f6  (x0, x1, ()) (k + 1) pt1 (h0_f6 x0 x1 h0) =
 (bif (decide (h0 < (List.length x1.2.2.2.2.1 : Int))) then (bif (bif (decide ((0 : Int) <= h0)) then (decide (h0 < (List.length x1.2.2.2.2.1 : Int))) else false) then (bif (decide ((List.length x0 : Int) < (rdL (e := S_BatSig) x1.2.2.2.2.1 h0).1)) then (some (false, ())) else (bif (bif (decide ((0 : Int) <= h0)) then (decide (h0 < (List.length x1.2.2.2.2.1 : Int))) else false) then (bif (bif (decide ((0 : Int) <= (w64 ((rdL (e := S_BatSig) x1.2.2.2.2.1 h0).1 - (1 : Int))))) then (decide ((w64 ((rdL (e := S_BatSig) x1.2.2.2.2.1 h0).1 - (1 : Int))) < (List.length x0 : Int))) else false) then (bif (bif (decide ((0 : Int) <= h0)) then (decide (h0 < (List.length x1.2.2.2.2.1 : Int))) else false) then (bif (bif (decide ((rdL (e := I) x0 (w64 ((rdL (e := S_BatSig) x1.2.2.2.2.1 h0).1 - (1 : Int)))) = (rdL (e := S_BatSig) x1.2.2.2.2.1 h0).2.1)) then false else true) then (some (false, ())) else (r_f6  (x0, x1, ()) k pt1 (h0_f6 x0 x1 (w64 (h0 + (1 : Int)))))) else none) else none) else none)) else none) else (some (true, ()))) := by kernel_rfl
theorem S_f6  {pre fn} (hev : Hq E_f6 pre fn) : C_f6 pre fn := sound tysOk mixed (fn := Tryz.f112) rfl rfl rfl ConsOk.nil _ hev
abbrev M_f7 : Lm := [.imm S_SpcSpec, .imm S_BatBatch]
abbrev R_f7 : Lr := [(.imm, .bool)]
abbrev In_f7 := Iq M_f7
abbrev Out_f7 := Oq R_f7 M_f7
abbrev C_f7 := Cq 113 M_f7 R_f7
abbrev X_f7 : Ctx := ctx tys 37 (conOf []) (keepOf [(pt0, (⟨[(2, .asis), (3, .asis), (5, .asis)], [(2, .asis), (3, .asis)], []⟩ : Keep))]) nF
abbrev E_f7 := evFn X_f7 Tryz.f113 R_f7 M_f7
def h0_f7 (x0 : Dm (.imm S_SpcSpec)) (x1 : Dm (.imm S_BatBatch)) (h0 : Dn I) : St := mkS [(2, (AV.ptr 2 none [])), (3, (AV.ptr 3 none [])), (5, (AV.val I h0))] [(2, (Ob.box S_SpcSpec (AV.val S_SpcSpec x0))), (3, (Ob.box S_BatBatch (AV.val S_BatBatch x1)))]
def r_f7 := rounds X_f7 Tryz.f113 R_f7 M_f7
theorem ev_f7 (k : Nat) (x0 : Dm (.imm S_SpcSpec)) (x1 : Dm (.imm S_BatBatch)) : E_f7 k (x0, x1, ()) =
 (bif (bif (decide ((List.length x0.1 : Int) = (List.length x1.2.2.1 : Int))) then false else true) then (some (false, ())) else (bif (decide (x0.2 = (1 : Int))) then (some (false, ())) else (r_f7  (x0, x1, ()) k pt0 (h0_f7 x0 x1 (0 : Int))))) := by kernel_rfl
theorem rd0_f7 (k : Nat) (x0 : Dm (.imm S_SpcSpec)) (x1 : Dm (.imm S_BatBatch)) (h0 : Dn I) : r_f7  (x0, x1, ()) (k + 1) pt0 (h0_f7 x0 x1 h0) =
 (bif (decide (h0 < (List.length x0.1 : Int))) then (bif (bif (decide ((0 : Int) <= h0)) then (decide (h0 < (List.length x0.1 : Int))) else false) then (bif (bif (decide ((0 : Int) <= h0)) then (decide (h0 < (List.length x1.2.2.1 : Int))) else false) then (bif (bif (Sh.beq S_SpcTest (rdL (e := S_SpcTest) x0.1 h0) (rdL (e := S_TstTest) x1.2.2.1 h0).1) then false else true) then (some (false, ())) else (r_f7  (x0, x1, ()) k pt0 (h0_f7 x0 x1 (w64 (h0 + (1 : Int)))))) else none) else none) else (some (true, ()))) := by kernel_rfl
theorem S_f7  {pre fn} (hev : Hq E_f7 pre fn) : C_f7 pre fn := sound tysOk mixed (fn := Tryz.f113) rfl rfl rfl ConsOk.nil _ hev
abbrev M_f8 : Lm := [.imm S_HouHouse]
abbrev R_f8 : Lr := [(.imm, .bool)]
abbrev In_f8 := Iq M_f8
abbrev Out_f8 := Oq R_f8 M_f8
abbrev C_f8 := Cq 51 M_f8 R_f8
section
variable (g_a3 : In_a3 -> Out_a3) (g_aw : In_aw -> Out_aw) (g_bb : In_bb -> Out_bb) (p_bb : In_bb -> Bool) (g_f6 : In_f6 -> Out_f6) (p_f6 : In_f6 -> Bool) (g_f7 : In_f7 -> Out_f7) (p_f7 : In_f7 -> Bool)
abbrev X_f8 : Ctx := ctx tys 78 (conOf [(66, ⟨M_a3, R_a3, fun _ => true, g_a3⟩), (111, ⟨M_aw, R_aw, fun _ => true, g_aw⟩), (28, ⟨M_bb, R_bb, p_bb, g_bb⟩), (112, ⟨M_f6, R_f6, p_f6, g_f6⟩), (113, ⟨M_f7, R_f7, p_f7, g_f7⟩)]) (keepOf [(pt2, (⟨[(1, .asis), (4, .asis)], [(1, .asis)], []⟩ : Keep)), (pt0, (⟨[(1, .asis), (3, .asis)], [(1, .asis)], []⟩ : Keep))]) nF
abbrev E_f8 := evFn (X_f8 g_a3 g_aw g_bb p_bb g_f6 p_f6 g_f7 p_f7) Tryz.f51 R_f8 M_f8
def h0_f8 (x0 : Dm (.imm S_HouHouse)) (h0 : Dn I) : St := mkS [(1, (AV.ptr 1 none [])), (3, (AV.val I h0))] [(1, (Ob.box S_HouHouse (AV.val S_HouHouse x0)))]
def h1_f8 (x0 : Dm (.imm S_HouHouse)) (h0 : Dn I) : St := mkS [(1, (AV.ptr 1 none [])), (4, (AV.val I h0))] [(1, (Ob.box S_HouHouse (AV.val S_HouHouse x0)))]
def r_f8 := rounds (X_f8 g_a3 g_aw g_bb p_bb g_f6 p_f6 g_f7 p_f7) Tryz.f51 R_f8 M_f8
variable {g_a3 g_aw g_bb p_bb g_f6 p_f6 g_f7 p_f7}
theorem ev_f8 (k : Nat) (x0 : Dm (.imm S_HouHouse)) : E_f8 g_a3 g_aw g_bb p_bb g_f6 p_f6 g_f7 p_f7 k (x0, ()) =
 (bif (bif (g_a3 ((List.length x0.1 : Int), ((1 : Int), ((5 : Int), ())))).1 then false else true) then (some (false, ())) else (bif (bif (g_aw (x0.2.1, ())).1 then false else true) then (some (false, ())) else (bif (decide ((4 : Int) < (List.length x0.2.2 : Int))) then (some (false, ())) else (r_f8 g_a3 g_aw g_bb p_bb g_f6 p_f6 g_f7 p_f7 (x0, ()) k pt0 (h0_f8 x0 (0 : Int)))))) := by kernel_rfl
theorem rd0_f8 (k : Nat) (x0 : Dm (.imm S_HouHouse)) (h0 : Dn I) : r_f8 g_a3 g_aw g_bb p_bb g_f6 p_f6 g_f7 p_f7 (x0, ()) (k + 1) pt0 (h0_f8 x0 h0) =
 (bif (decide (h0 < (List.length x0.1 : Int))) then (bif (bif (decide ((0 : Int) <= h0)) then (decide (h0 < (List.length x0.1 : Int))) else false) then (bif (bif (g_a3 ((rdL (e := I) x0.1 h0), ((1 : Int), ((4 : Int), ())))).1 then false else true) then (some (false, ())) else (r_f8 g_a3 g_aw g_bb p_bb g_f6 p_f6 g_f7 p_f7 (x0, ()) k pt0 (h0_f8 x0 (w64 (h0 + (1 : Int)))))) else none) else (r_f8 g_a3 g_aw g_bb p_bb g_f6 p_f6 g_f7 p_f7 (x0, ()) k pt2 (h1_f8 x0 (0 : Int)))) := by kernel_rfl
theorem rd1_f8 (k : Nat) (x0 : Dm (.imm S_HouHouse)) (h0 : Dn I) : r_f8 g_a3 g_aw g_bb p_bb g_f6 p_f6 g_f7 p_f7 (x0, ()) (k + 1) pt2 (h1_f8 x0 h0) =
 (lt (rdL (e := S_BatBatch) x0.2.2 h0) fun s0 => (bif (decide (h0 < (List.length x0.2.2 : Int))) then (bif (bif (decide ((0 : Int) <= h0)) then (decide (h0 < (List.length x0.2.2 : Int))) else false) then (cl (p_bb (s0, ())) (g_bb (s0, ())) fun y0 => (bif (bif y0.1 then false else true) then (some (false, ())) else (bif (decide ((List.length x0.2.1 : Int) <= s0.1)) then (some (false, ())) else (cl (p_f6 (x0.1, (s0, ()))) (g_f6 (x0.1, (s0, ()))) fun y1 => (bif (bif y1.1 then false else true) then (some (false, ())) else (bif (bif (decide ((0 : Int) <= s0.1)) then (decide (s0.1 < (List.length x0.2.1 : Int))) else false) then (cl (p_f7 ((rdL (e := S_SpcSpec) x0.2.1 s0.1), (s0, ()))) (g_f7 ((rdL (e := S_SpcSpec) x0.2.1 s0.1), (s0, ()))) fun y2 => (bif (bif y2.1 then false else true) then (some (false, ())) else (r_f8 g_a3 g_aw g_bb p_bb g_f6 p_f6 g_f7 p_f7 (x0, ()) k pt2 (h1_f8 x0 (w64 (h0 + (1 : Int))))))) else none)))))) else none) else (some (true, ())))) := by kernel_rfl
theorem S_f8 (h_a3 : C_a3 (fun _ => true) g_a3) (h_aw : C_aw (fun _ => true) g_aw) (h_bb : C_bb p_bb g_bb) (h_f6 : C_f6 p_f6 g_f6) (h_f7 : C_f7 p_f7 g_f7) {pre fn} (hev : Hq (E_f8 g_a3 g_aw g_bb p_bb g_f6 p_f6 g_f7 p_f7) pre fn) : C_f8 pre fn := sound tysOk mixed (fn := Tryz.f51) rfl rfl rfl (.cons h_a3 (.cons h_aw (.cons h_bb (.cons h_f6 (.cons h_f7 .nil))))) _ hev
end
abbrev M_f9 : Lm := [.imm S_HouHouse, .imm S_ReqReq]
abbrev R_f9 : Lr := [(.own, S_HouHouse), (.imm, I)]
abbrev In_f9 := Iq M_f9
abbrev Out_f9 := Oq R_f9 M_f9
abbrev C_f9 := Cq 17 M_f9 R_f9
section
variable (g_f8 : In_f8 -> Out_f8) (p_f8 : In_f8 -> Bool) (g_bo : In_bo -> Out_bo) (p_bo : In_bo -> Bool) (g_as : In_as -> Out_as) (p_as : In_as -> Bool) (g_bl : In_bl -> Out_bl) (p_bl : In_bl -> Bool)
abbrev X_f9 : Ctx := ctx tys 21 (conOf [(51, ⟨M_f8, R_f8, p_f8, g_f8⟩), (23, ⟨M_bo, R_bo, p_bo, g_bo⟩), (63, ⟨M_as, R_as, p_as, g_as⟩), (62, ⟨M_bl, R_bl, p_bl, g_bl⟩)]) (keepOf []) nF
abbrev E_f9 := evFn (X_f9 g_f8 p_f8 g_bo p_bo g_as p_as g_bl p_bl) Tryz.f17 R_f9 M_f9
variable {g_f8 p_f8 g_bo p_bo g_as p_as g_bl p_bl}
theorem ev_f9 (k : Nat) (x0 : Dm (.imm S_HouHouse)) (x1 : Dm (.imm S_ReqReq)) : E_f9 g_f8 p_f8 g_bo p_bo g_as p_as g_bl p_bl k (x0, x1, ()) =
 (cl (p_f8 (x0, ())) (g_f8 (x0, ())) fun y0 => (bif (bif y0.1 then false else true) then (some (([], ([], [])), ((0 : Int), ()))) else (cl (p_bo (x1, ())) (g_bo (x1, ())) fun y1 => (bif (bif y1.1 then false else true) then (some (([], ([], [])), ((0 : Int), ()))) else (cl (p_as (x0, ())) (g_as (x0, ())) fun y2 => (cl (p_bl (y2.1, (x1, ()))) (g_bl (y2.1, (x1, ()))) fun y3 => (some (y3.1, (y3.2.1, ()))))))))) := by kernel_rfl
theorem S_f9 (h_f8 : C_f8 p_f8 g_f8) (h_bo : C_bo p_bo g_bo) (h_as : C_as p_as g_as) (h_bl : C_bl p_bl g_bl) {pre fn} (hev : Hq (E_f9 g_f8 p_f8 g_bo p_bo g_as p_as g_bl p_bl) pre fn) : C_f9 pre fn := sound tysOk mixed (fn := Tryz.f17) rfl rfl rfl (.cons h_f8 (.cons h_bo (.cons h_as (.cons h_bl .nil)))) _ hev
end
abbrev M_fa : Lm := [.imm L_int, .imm L_int]
abbrev R_fa : Lr := [(.imm, .bool)]
abbrev In_fa := Iq M_fa
abbrev Out_fa := Oq R_fa M_fa
abbrev C_fa := Cq 48 M_fa R_fa
abbrev X_fa : Ctx := ctx tys 26 (conOf []) (keepOf [(pt0, (⟨[(0, .asis), (1, .asis), (5, .asis)], [], []⟩ : Keep))]) nF
abbrev E_fa := evFn X_fa Tryz.f48 R_fa M_fa
def h0_fa (x0 : Dm (.imm L_int)) (x1 : Dm (.imm L_int)) (h0 : Dn I) : St := mkS [(0, (AV.val L_int x0)), (1, (AV.val L_int x1)), (5, (AV.val I h0))] []
def r_fa := rounds X_fa Tryz.f48 R_fa M_fa
theorem ev_fa (k : Nat) (x0 : Dm (.imm L_int)) (x1 : Dm (.imm L_int)) : E_fa k (x0, x1, ()) =
 (bif (bif (decide ((List.length x0 : Int) = (List.length x1 : Int))) then false else true) then (some (false, ())) else (r_fa  (x0, x1, ()) k pt0 (h0_fa x0 x1 (0 : Int)))) := by kernel_rfl
theorem rd0_fa (k : Nat) (x0 : Dm (.imm L_int)) (x1 : Dm (.imm L_int)) (h0 : Dn I) : r_fa  (x0, x1, ()) (k + 1) pt0 (h0_fa x0 x1 h0) =
 (bif (decide (h0 < (List.length x0 : Int))) then (bif (bif (decide ((0 : Int) <= h0)) then (decide (h0 < (List.length x0 : Int))) else false) then (bif (bif (decide ((0 : Int) <= h0)) then (decide (h0 < (List.length x1 : Int))) else false) then (bif (bif (decide ((rdL (e := I) x0 h0) = (rdL (e := I) x1 h0))) then false else true) then (some (false, ())) else (r_fa  (x0, x1, ()) k pt0 (h0_fa x0 x1 (w64 (h0 + (1 : Int)))))) else none) else none) else (some (true, ()))) := by kernel_rfl
theorem S_fa  {pre fn} (hev : Hq E_fa pre fn) : C_fa pre fn := sound tysOk mixed (fn := Tryz.f48) rfl rfl rfl ConsOk.nil _ hev
abbrev M_fb : Lm := [.imm L_SpcTest, .imm L_SpcTest]
abbrev R_fb : Lr := [(.imm, .bool)]
abbrev In_fb := Iq M_fb
abbrev Out_fb := Oq R_fb M_fb
abbrev C_fb := Cq 53 M_fb R_fb
abbrev X_fb : Ctx := ctx tys 26 (conOf []) (keepOf [(pt0, (⟨[(0, .asis), (1, .asis), (5, .asis)], [], []⟩ : Keep))]) nF
abbrev E_fb := evFn X_fb Tryz.f53 R_fb M_fb
def h0_fb (x0 : Dm (.imm L_SpcTest)) (x1 : Dm (.imm L_SpcTest)) (h0 : Dn I) : St := mkS [(0, (AV.val L_SpcTest x0)), (1, (AV.val L_SpcTest x1)), (5, (AV.val I h0))] []
def r_fb := rounds X_fb Tryz.f53 R_fb M_fb
theorem ev_fb (k : Nat) (x0 : Dm (.imm L_SpcTest)) (x1 : Dm (.imm L_SpcTest)) : E_fb k (x0, x1, ()) =
 (bif (bif (decide ((List.length x0 : Int) = (List.length x1 : Int))) then false else true) then (some (false, ())) else (r_fb  (x0, x1, ()) k pt0 (h0_fb x0 x1 (0 : Int)))) := by kernel_rfl
theorem rd0_fb (k : Nat) (x0 : Dm (.imm L_SpcTest)) (x1 : Dm (.imm L_SpcTest)) (h0 : Dn I) : r_fb  (x0, x1, ()) (k + 1) pt0 (h0_fb x0 x1 h0) =
 (bif (decide (h0 < (List.length x0 : Int))) then (bif (bif (decide ((0 : Int) <= h0)) then (decide (h0 < (List.length x0 : Int))) else false) then (bif (bif (decide ((0 : Int) <= h0)) then (decide (h0 < (List.length x1 : Int))) else false) then (bif (bif (Sh.beq S_SpcTest (rdL (e := S_SpcTest) x0 h0) (rdL (e := S_SpcTest) x1 h0)) then false else true) then (some (false, ())) else (r_fb  (x0, x1, ()) k pt0 (h0_fb x0 x1 (w64 (h0 + (1 : Int)))))) else none) else none) else (some (true, ()))) := by kernel_rfl
theorem S_fb  {pre fn} (hev : Hq E_fb pre fn) : C_fb pre fn := sound tysOk mixed (fn := Tryz.f53) rfl rfl rfl ConsOk.nil _ hev
abbrev M_fc : Lm := [.imm L_SpcSpec, .imm L_SpcSpec]
abbrev R_fc : Lr := [(.imm, .bool)]
abbrev In_fc := Iq M_fc
abbrev Out_fc := Oq R_fc M_fc
abbrev C_fc := Cq 22 M_fc R_fc
section
variable (g_fb : In_fb -> Out_fb) (p_fb : In_fb -> Bool)
abbrev X_fc : Ctx := ctx tys 42 (conOf [(53, ⟨M_fb, R_fb, p_fb, g_fb⟩)]) (keepOf [(pt0, (⟨[(0, .asis), (1, .asis), (5, .asis)], [], []⟩ : Keep))]) nF
abbrev E_fc := evFn (X_fc g_fb p_fb) Tryz.f22 R_fc M_fc
def h0_fc (x0 : Dm (.imm L_SpcSpec)) (x1 : Dm (.imm L_SpcSpec)) (h0 : Dn I) : St := mkS [(0, (AV.val L_SpcSpec x0)), (1, (AV.val L_SpcSpec x1)), (5, (AV.val I h0))] []
def r_fc := rounds (X_fc g_fb p_fb) Tryz.f22 R_fc M_fc
variable {g_fb p_fb}
theorem ev_fc (k : Nat) (x0 : Dm (.imm L_SpcSpec)) (x1 : Dm (.imm L_SpcSpec)) : E_fc g_fb p_fb k (x0, x1, ()) =
 (bif (bif (decide ((List.length x0 : Int) = (List.length x1 : Int))) then false else true) then (some (false, ())) else (r_fc g_fb p_fb (x0, x1, ()) k pt0 (h0_fc x0 x1 (0 : Int)))) := by kernel_rfl
theorem rd0_fc (k : Nat) (x0 : Dm (.imm L_SpcSpec)) (x1 : Dm (.imm L_SpcSpec)) (h0 : Dn I) : r_fc g_fb p_fb (x0, x1, ()) (k + 1) pt0 (h0_fc x0 x1 h0) =
 (bif (decide (h0 < (List.length x0 : Int))) then (bif (bif (decide ((0 : Int) <= h0)) then (decide (h0 < (List.length x0 : Int))) else false) then (bif (bif (decide ((0 : Int) <= h0)) then (decide (h0 < (List.length x1 : Int))) else false) then (bif (bif (decide ((rdL (e := S_SpcSpec) x0 h0).2 = (rdL (e := S_SpcSpec) x1 h0).2)) then false else true) then (some (false, ())) else (bif (bif (decide ((0 : Int) <= h0)) then (decide (h0 < (List.length x0 : Int))) else false) then (bif (bif (decide ((0 : Int) <= h0)) then (decide (h0 < (List.length x1 : Int))) else false) then (bif (p_fb ((rdL (e := S_SpcSpec) x0 h0).1, ((rdL (e := S_SpcSpec) x1 h0).1, ()))) then (bif (bif (g_fb ((rdL (e := S_SpcSpec) x0 h0).1, ((rdL (e := S_SpcSpec) x1 h0).1, ()))).1 then false else true) then (some (false, ())) else (r_fc g_fb p_fb (x0, x1, ()) k pt0 (h0_fc x0 x1 (w64 (h0 + (1 : Int)))))) else none) else none) else none)) else none) else none) else (some (true, ()))) := by kernel_rfl
theorem S_fc (h_fb : C_fb p_fb g_fb) {pre fn} (hev : Hq (E_fc g_fb p_fb) pre fn) : C_fc pre fn := sound tysOk mixed (fn := Tryz.f22) rfl rfl rfl (.cons h_fb .nil) _ hev
end
abbrev M_fd : Lm := [.imm L_DecDec, .imm L_DecDec]
abbrev R_fd : Lr := [(.imm, .bool)]
abbrev In_fd := Iq M_fd
abbrev Out_fd := Oq R_fd M_fd
abbrev C_fd := Cq 99 M_fd R_fd
abbrev X_fd : Ctx := ctx tys 26 (conOf []) (keepOf [(pt0, (⟨[(0, .asis), (1, .asis), (5, .asis)], [], []⟩ : Keep))]) nF
abbrev E_fd := evFn X_fd Tryz.f99 R_fd M_fd
def h0_fd (x0 : Dm (.imm L_DecDec)) (x1 : Dm (.imm L_DecDec)) (h0 : Dn I) : St := mkS [(0, (AV.val L_DecDec x0)), (1, (AV.val L_DecDec x1)), (5, (AV.val I h0))] []
def r_fd := rounds X_fd Tryz.f99 R_fd M_fd
theorem ev_fd (k : Nat) (x0 : Dm (.imm L_DecDec)) (x1 : Dm (.imm L_DecDec)) : E_fd k (x0, x1, ()) =
 (bif (bif (decide ((List.length x0 : Int) = (List.length x1 : Int))) then false else true) then (some (false, ())) else (r_fd  (x0, x1, ()) k pt0 (h0_fd x0 x1 (0 : Int)))) := by kernel_rfl
theorem rd0_fd (k : Nat) (x0 : Dm (.imm L_DecDec)) (x1 : Dm (.imm L_DecDec)) (h0 : Dn I) : r_fd  (x0, x1, ()) (k + 1) pt0 (h0_fd x0 x1 h0) =
 (bif (decide (h0 < (List.length x0 : Int))) then (bif (bif (decide ((0 : Int) <= h0)) then (decide (h0 < (List.length x0 : Int))) else false) then (bif (bif (decide ((0 : Int) <= h0)) then (decide (h0 < (List.length x1 : Int))) else false) then (bif (bif (Sh.beq S_DecDec (rdL (e := S_DecDec) x0 h0) (rdL (e := S_DecDec) x1 h0)) then false else true) then (some (false, ())) else (r_fd  (x0, x1, ()) k pt0 (h0_fd x0 x1 (w64 (h0 + (1 : Int)))))) else none) else none) else (some (true, ()))) := by kernel_rfl
theorem S_fd  {pre fn} (hev : Hq E_fd pre fn) : C_fd pre fn := sound tysOk mixed (fn := Tryz.f99) rfl rfl rfl ConsOk.nil _ hev
abbrev M_fe : Lm := [.imm S_TstTest, .imm S_TstTest]
abbrev R_fe : Lr := [(.imm, .bool)]
abbrev In_fe := Iq M_fe
abbrev Out_fe := Oq R_fe M_fe
abbrev C_fe := Cq 41 M_fe R_fe
section
variable (g_fd : In_fd -> Out_fd) (p_fd : In_fd -> Bool)
abbrev X_fe : Ctx := ctx tys 38 (conOf [(99, ⟨M_fd, R_fd, p_fd, g_fd⟩)]) (keepOf []) nF
abbrev E_fe := evFn (X_fe g_fd p_fd) Tryz.f41 R_fe M_fe
variable {g_fd p_fd}
theorem ev_fe (k : Nat) (x0 : Dm (.imm S_TstTest)) (x1 : Dm (.imm S_TstTest)) : E_fe g_fd p_fd k (x0, x1, ()) =
 (bif (Sh.beq S_SpcTest x0.1 x1.1) then (bif (decide (x0.2.1 = x1.2.1)) then (bif (Sh.beq S_DecDec x0.2.2.1 x1.2.2.1) then (bif (decide (x0.2.2.2.1 = x1.2.2.2.1)) then (bif (p_fd (x0.2.2.2.2, (x1.2.2.2.2, ()))) then (some ((g_fd (x0.2.2.2.2, (x1.2.2.2.2, ()))).1, ())) else none) else (some (false, ()))) else (some (false, ()))) else (some (false, ()))) else (some (false, ()))) := by kernel_rfl
theorem S_fe (h_fd : C_fd p_fd g_fd) {pre fn} (hev : Hq (E_fe g_fd p_fd) pre fn) : C_fe pre fn := sound tysOk mixed (fn := Tryz.f41) rfl rfl rfl (.cons h_fd .nil) _ hev
end
abbrev M_ff : Lm := [.imm S_BatBatch, .imm S_BatBatch]
abbrev R_ff : Lr := [(.imm, .bool)]
abbrev In_ff := Iq M_ff
abbrev Out_ff := Oq R_ff M_ff
abbrev C_ff := Cq 21 M_ff R_ff
section
variable (g_fe : In_fe -> Out_fe) (p_fe : In_fe -> Bool)
abbrev X_ff : Ctx := ctx tys 109 (conOf [(41, ⟨M_fe, R_fe, p_fe, g_fe⟩)]) (keepOf [(pt8, (⟨[(2, .asis), (3, .asis), (7, .asis)], [(2, .asis), (3, .asis)], []⟩ : Keep)), (pt2, (⟨[(2, .asis), (3, .asis), (6, .asis)], [(2, .asis), (3, .asis)], []⟩ : Keep)), (pt0, (⟨[(2, .asis), (3, .asis), (5, .asis)], [(2, .asis), (3, .asis)], []⟩ : Keep))]) nF
abbrev E_ff := evFn (X_ff g_fe p_fe) Tryz.f21 R_ff M_ff
def h0_ff (x0 : Dm (.imm S_BatBatch)) (x1 : Dm (.imm S_BatBatch)) (h0 : Dn I) : St := mkS [(2, (AV.ptr 2 none [])), (3, (AV.ptr 3 none [])), (5, (AV.val I h0))] [(2, (Ob.box S_BatBatch (AV.val S_BatBatch x0))), (3, (Ob.box S_BatBatch (AV.val S_BatBatch x1)))]
def h1_ff (x0 : Dm (.imm S_BatBatch)) (x1 : Dm (.imm S_BatBatch)) (h0 : Dn I) : St := mkS [(2, (AV.ptr 2 none [])), (3, (AV.ptr 3 none [])), (6, (AV.val I h0))] [(2, (Ob.box S_BatBatch (AV.val S_BatBatch x0))), (3, (Ob.box S_BatBatch (AV.val S_BatBatch x1)))]
def h2_ff (x0 : Dm (.imm S_BatBatch)) (x1 : Dm (.imm S_BatBatch)) (h0 : Dn I) : St := mkS [(2, (AV.ptr 2 none [])), (3, (AV.ptr 3 none [])), (7, (AV.val I h0))] [(2, (Ob.box S_BatBatch (AV.val S_BatBatch x0))), (3, (Ob.box S_BatBatch (AV.val S_BatBatch x1)))]
def r_ff := rounds (X_ff g_fe p_fe) Tryz.f21 R_ff M_ff
variable {g_fe p_fe}
theorem ev_ff (k : Nat) (x0 : Dm (.imm S_BatBatch)) (x1 : Dm (.imm S_BatBatch)) : E_ff g_fe p_fe k (x0, x1, ()) =
 (bif (bif (decide (x0.1 = x1.1)) then false else true) then (some (false, ())) else (bif (bif (decide (x0.2.1 = x1.2.1)) then false else true) then (some (false, ())) else (bif (bif (decide (x0.2.2.2.1 = x1.2.2.2.1)) then false else true) then (some (false, ())) else (bif (bif (decide ((List.length x0.2.2.1 : Int) = (List.length x1.2.2.1 : Int))) then false else true) then (some (false, ())) else (bif (bif (decide ((List.length x0.2.2.2.2.1 : Int) = (List.length x1.2.2.2.2.1 : Int))) then false else true) then (some (false, ())) else (bif (bif (decide ((List.length x0.2.2.2.2.2 : Int) = (List.length x1.2.2.2.2.2 : Int))) then false else true) then (some (false, ())) else (r_ff g_fe p_fe (x0, x1, ()) k pt0 (h0_ff x0 x1 (0 : Int))))))))) := by kernel_rfl
theorem rd0_ff (k : Nat) (x0 : Dm (.imm S_BatBatch)) (x1 : Dm (.imm S_BatBatch)) (h0 : Dn I) : r_ff g_fe p_fe (x0, x1, ()) (k + 1) pt0 (h0_ff x0 x1 h0) =
 (bif (decide (h0 < (List.length x0.2.2.1 : Int))) then (bif (bif (decide ((0 : Int) <= h0)) then (decide (h0 < (List.length x0.2.2.1 : Int))) else false) then (bif (bif (decide ((0 : Int) <= h0)) then (decide (h0 < (List.length x1.2.2.1 : Int))) else false) then (cl (p_fe ((rdL (e := S_TstTest) x0.2.2.1 h0), ((rdL (e := S_TstTest) x1.2.2.1 h0), ()))) (g_fe ((rdL (e := S_TstTest) x0.2.2.1 h0), ((rdL (e := S_TstTest) x1.2.2.1 h0), ()))) fun y0 => (bif (bif y0.1 then false else true) then (some (false, ())) else (r_ff g_fe p_fe (x0, x1, ()) k pt0 (h0_ff x0 x1 (w64 (h0 + (1 : Int))))))) else none) else none) else (r_ff g_fe p_fe (x0, x1, ()) k pt2 (h1_ff x0 x1 (0 : Int)))) := by kernel_rfl
theorem rd1_ff (k : Nat) (x0 : Dm (.imm S_BatBatch)) (x1 : Dm (.imm S_BatBatch)) (h0 : Dn I) : r_ff g_fe p_fe (x0, x1, ()) (k + 1) pt2 (h1_ff x0 x1 h0) =
 (bif (decide (h0 < (List.length x0.2.2.2.2.1 : Int))) then (bif (bif (decide ((0 : Int) <= h0)) then (decide (h0 < (List.length x0.2.2.2.2.1 : Int))) else false) then (bif (bif (decide ((0 : Int) <= h0)) then (decide (h0 < (List.length x1.2.2.2.2.1 : Int))) else false) then (bif (bif (Sh.beq S_BatSig (rdL (e := S_BatSig) x0.2.2.2.2.1 h0) (rdL (e := S_BatSig) x1.2.2.2.2.1 h0)) then false else true) then (some (false, ())) else (r_ff g_fe p_fe (x0, x1, ()) k pt2 (h1_ff x0 x1 (w64 (h0 + (1 : Int)))))) else none) else none) else (r_ff g_fe p_fe (x0, x1, ()) k pt8 (h2_ff x0 x1 (0 : Int)))) := by kernel_rfl
theorem rd2_ff (k : Nat) (x0 : Dm (.imm S_BatBatch)) (x1 : Dm (.imm S_BatBatch)) (h0 : Dn I) : r_ff g_fe p_fe (x0, x1, ()) (k + 1) pt8 (h2_ff x0 x1 h0) =
 (bif (decide (h0 < (List.length x0.2.2.2.2.2 : Int))) then (bif (bif (decide ((0 : Int) <= h0)) then (decide (h0 < (List.length x0.2.2.2.2.2 : Int))) else false) then (bif (bif (decide ((0 : Int) <= h0)) then (decide (h0 < (List.length x1.2.2.2.2.2 : Int))) else false) then (bif (bif ((rdL (e := Sh.bool) x0.2.2.2.2.2 h0) == (rdL (e := Sh.bool) x1.2.2.2.2.2 h0)) then false else true) then (some (false, ())) else (r_ff g_fe p_fe (x0, x1, ()) k pt8 (h2_ff x0 x1 (w64 (h0 + (1 : Int)))))) else none) else none) else (some (true, ()))) := by kernel_rfl
theorem S_ff (h_fe : C_fe p_fe g_fe) {pre fn} (hev : Hq (E_ff g_fe p_fe) pre fn) : C_ff pre fn := sound tysOk mixed (fn := Tryz.f21) rfl rfl rfl (.cons h_fe .nil) _ hev
end
abbrev M_fg : Lm := [.imm S_HouHouse, .imm S_HouHouse]
abbrev R_fg : Lr := [(.imm, .bool)]
abbrev In_fg := Iq M_fg
abbrev Out_fg := Oq R_fg M_fg
abbrev C_fg := Cq 18 M_fg R_fg
section
variable (g_fa : In_fa -> Out_fa) (p_fa : In_fa -> Bool) (g_fc : In_fc -> Out_fc) (p_fc : In_fc -> Bool) (g_ff : In_ff -> Out_ff) (p_ff : In_ff -> Bool)
abbrev X_fg : Ctx := ctx tys 48 (conOf [(48, ⟨M_fa, R_fa, p_fa, g_fa⟩), (22, ⟨M_fc, R_fc, p_fc, g_fc⟩), (21, ⟨M_ff, R_ff, p_ff, g_ff⟩)]) (keepOf [(pt0, (⟨[(2, .asis), (3, .asis), (5, .asis)], [(2, .asis), (3, .asis)], []⟩ : Keep))]) nF
abbrev E_fg := evFn (X_fg g_fa p_fa g_fc p_fc g_ff p_ff) Tryz.f18 R_fg M_fg
def h0_fg (x0 : Dm (.imm S_HouHouse)) (x1 : Dm (.imm S_HouHouse)) (h0 : Dn I) : St := mkS [(2, (AV.ptr 2 none [])), (3, (AV.ptr 3 none [])), (5, (AV.val I h0))] [(2, (Ob.box S_HouHouse (AV.val S_HouHouse x0))), (3, (Ob.box S_HouHouse (AV.val S_HouHouse x1)))]
def r_fg := rounds (X_fg g_fa p_fa g_fc p_fc g_ff p_ff) Tryz.f18 R_fg M_fg
variable {g_fa p_fa g_fc p_fc g_ff p_ff}
theorem ev_fg (k : Nat) (x0 : Dm (.imm S_HouHouse)) (x1 : Dm (.imm S_HouHouse)) : E_fg g_fa p_fa g_fc p_fc g_ff p_ff k (x0, x1, ()) =
 (cl (p_fa (x0.1, (x1.1, ()))) (g_fa (x0.1, (x1.1, ()))) fun y0 => (bif (bif y0.1 then false else true) then (some (false, ())) else (cl (p_fc (x0.2.1, (x1.2.1, ()))) (g_fc (x0.2.1, (x1.2.1, ()))) fun y1 => (bif (bif y1.1 then false else true) then (some (false, ())) else (bif (bif (decide ((List.length x0.2.2 : Int) = (List.length x1.2.2 : Int))) then false else true) then (some (false, ())) else (r_fg g_fa p_fa g_fc p_fc g_ff p_ff (x0, x1, ()) k pt0 (h0_fg x0 x1 (0 : Int)))))))) := by kernel_rfl
theorem rd0_fg (k : Nat) (x0 : Dm (.imm S_HouHouse)) (x1 : Dm (.imm S_HouHouse)) (h0 : Dn I) : r_fg g_fa p_fa g_fc p_fc g_ff p_ff (x0, x1, ()) (k + 1) pt0 (h0_fg x0 x1 h0) =
 (bif (decide (h0 < (List.length x0.2.2 : Int))) then (bif (bif (decide ((0 : Int) <= h0)) then (decide (h0 < (List.length x0.2.2 : Int))) else false) then (bif (bif (decide ((0 : Int) <= h0)) then (decide (h0 < (List.length x1.2.2 : Int))) else false) then (cl (p_ff ((rdL (e := S_BatBatch) x0.2.2 h0), ((rdL (e := S_BatBatch) x1.2.2 h0), ()))) (g_ff ((rdL (e := S_BatBatch) x0.2.2 h0), ((rdL (e := S_BatBatch) x1.2.2 h0), ()))) fun y0 => (bif (bif y0.1 then false else true) then (some (false, ())) else (r_fg g_fa p_fa g_fc p_fc g_ff p_ff (x0, x1, ()) k pt0 (h0_fg x0 x1 (w64 (h0 + (1 : Int))))))) else none) else none) else (some (true, ()))) := by kernel_rfl
theorem S_fg (h_fa : C_fa p_fa g_fa) (h_fc : C_fc p_fc g_fc) (h_ff : C_ff p_ff g_ff) {pre fn} (hev : Hq (E_fg g_fa p_fa g_fc p_fc g_ff p_ff) pre fn) : C_fg pre fn := sound tysOk mixed (fn := Tryz.f18) rfl rfl rfl (.cons h_fa (.cons h_fc (.cons h_ff .nil))) _ hev
end
abbrev M_fh : Lm := [.imm I]
abbrev R_fh : Lr := [(.imm, .bool)]
abbrev In_fh := Iq M_fh
abbrev Out_fh := Oq R_fh M_fh
abbrev C_fh := Cq 185 M_fh R_fh
abbrev X_fh : Ctx := ctx tys 16 (conOf []) (keepOf []) nF
abbrev E_fh := evFn X_fh Tryz.f185 R_fh M_fh
theorem ev_fh (k : Nat) (x0 : Dm (.imm I)) : E_fh k (x0, ()) =
 (bif (bif (decide ((4 : Int) = (0 : Int))) then false else true) then (bif (decide ((Int.tmod x0 (4 : Int)) = (0 : Int))) then (bif (bif (decide ((100 : Int) = (0 : Int))) then false else true) then (bif (bif (decide ((Int.tmod x0 (100 : Int)) = (0 : Int))) then false else true) then (some (true, ())) else (bif (bif (decide ((400 : Int) = (0 : Int))) then false else true) then (some ((decide ((Int.tmod x0 (400 : Int)) = (0 : Int))), ())) else none)) else none) else (some (false, ()))) else none) := by kernel_rfl
theorem S_fh  {pre fn} (hev : Hq E_fh pre fn) : C_fh pre fn := sound tysOk mixed (fn := Tryz.f185) rfl rfl rfl ConsOk.nil _ hev
abbrev M_fi : Lm := [.imm I, .imm I]
abbrev R_fi : Lr := [(.imm, I)]
abbrev In_fi := Iq M_fi
abbrev Out_fi := Oq R_fi M_fi
abbrev C_fi := Cq 137 M_fi R_fi
section
variable (g_iin : In_iin -> Out_iin) (g_fh : In_fh -> Out_fh)
abbrev X_fi : Ctx := ctx tys 20 (conOf [(65, ⟨M_iin, R_iin, fun _ => true, g_iin⟩), (185, ⟨M_fh, R_fh, fun _ => true, g_fh⟩)]) (keepOf []) nF
abbrev E_fi := evFn (X_fi g_iin g_fh) Tryz.f137 R_fi M_fi
variable {g_iin g_fh}
theorem ev_fi (k : Nat) (x0 : Dm (.imm I)) (x1 : Dm (.imm I)) : E_fi g_iin g_fh k (x0, x1, ()) =
 (bif (bif (g_iin (x1, ((1 : Int), ((12 : Int), ())))).1 then false else true) then (some ((0 : Int), ())) else (bif (decide (x1 = (2 : Int))) then (bif (g_fh (x0, ())).1 then (some ((29 : Int), ())) else none) else none)) := by kernel_rfl
theorem S_fi (h_iin : C_iin (fun _ => true) g_iin) (h_fh : C_fh (fun _ => true) g_fh) {pre fn} (hev : Hq (E_fi g_iin g_fh) pre fn) : C_fi pre fn := sound tysOk mixed (fn := Tryz.f137) rfl rfl rfl (.cons h_iin (.cons h_fh .nil)) _ hev
end
abbrev M_fj : Lm := [.imm S_BatSig]
abbrev R_fj : Lr := [(.imm, .bool)]
abbrev In_fj := Iq M_fj
abbrev Out_fj := Oq R_fj M_fj
abbrev C_fj := Cq 64 M_fj R_fj
section
variable (g_iin : In_iin -> Out_iin) (g_fi : In_fi -> Out_fi) (p_fi : In_fi -> Bool)
abbrev X_fj : Ctx := ctx tys 16 (conOf [(65, ⟨M_iin, R_iin, fun _ => true, g_iin⟩), (137, ⟨M_fi, R_fi, p_fi, g_fi⟩)]) (keepOf []) nF
abbrev E_fj := evFn (X_fj g_iin g_fi p_fi) Tryz.f64 R_fj M_fj
variable {g_iin g_fi p_fi}
theorem ev_fj (k : Nat) (x0 : Dm (.imm S_BatSig)) : E_fj g_iin g_fi p_fi k (x0, ()) =
 (bif (g_iin (x0.1, ((1900 : Int), ((2199 : Int), ())))).1 then (bif (p_fi (x0.1, (x0.2.1, ()))) then (some ((g_iin (x0.2.2, ((1 : Int), ((g_fi (x0.1, (x0.2.1, ()))).1, ())))).1, ())) else none) else (some (false, ()))) := by kernel_rfl
theorem S_fj (h_iin : C_iin (fun _ => true) g_iin) (h_fi : C_fi p_fi g_fi) {pre fn} (hev : Hq (E_fj g_iin g_fi p_fi) pre fn) : C_fj pre fn := sound tysOk mixed (fn := Tryz.f64) rfl rfl rfl (.cons h_iin (.cons h_fi .nil)) _ hev
end
abbrev M_fk : Lm := []
abbrev R_fk : Lr := [(.imm, .bool)]
abbrev In_fk := Iq M_fk
abbrev Out_fk := Oq R_fk M_fk
abbrev C_fk := Cq 19 M_fk R_fk
section
variable (g_fj : In_fj -> Out_fj) (p_fj : In_fj -> Bool)
abbrev X_fk : Ctx := ctx tys 3 (conOf [(64, ⟨M_fj, R_fj, p_fj, g_fj⟩)]) (keepOf []) nF
abbrev E_fk := evFn (X_fk g_fj p_fj) Tryz.f19 R_fk M_fk
variable {g_fj p_fj}
theorem ev_fk (k : Nat)  : E_fk g_fj p_fj k (()) =
 (bif (p_fj (((2000 : Int), ((2 : Int), (29 : Int))), ())) then (some ((g_fj (((2000 : Int), ((2 : Int), (29 : Int))), ())).1, ())) else none) := by kernel_rfl
theorem S_fk (h_fj : C_fj p_fj g_fj) {pre fn} (hev : Hq (E_fk g_fj p_fj) pre fn) : C_fk pre fn := sound tysOk mixed (fn := Tryz.f19) rfl rfl rfl (.cons h_fj .nil) _ hev
end
abbrev M_lFnHouSpec : Lm := [.imm L_u8]
abbrev R_lFnHouSpec : Lr := [(.own, .bool)]
abbrev In_lFnHouSpec := Iq M_lFnHouSpec
abbrev Out_lFnHouSpec := Oq R_lFnHouSpec M_lFnHouSpec
abbrev C_lFnHouSpec := Cq 13 M_lFnHouSpec R_lFnHouSpec
section
variable (g_c3 : In_c3 -> Out_c3) (p_c3 : In_c3 -> Bool) (g_f5 : In_f5 -> Out_f5) (p_f5 : In_f5 -> Bool) (g_f9 : In_f9 -> Out_f9) (p_f9 : In_f9 -> Bool) (g_fg : In_fg -> Out_fg) (p_fg : In_fg -> Bool) (g_fk : In_fk -> Out_fk) (g_fb : In_fb -> Out_fb) (p_fb : In_fb -> Bool) (g_ed : In_ed -> Out_ed) (p_ed : In_ed -> Bool)
abbrev X_lFnHouSpec : Ctx := ctx tys 168 (conOf [(15, ⟨M_c3, R_c3, p_c3, g_c3⟩), (16, ⟨M_f5, R_f5, p_f5, g_f5⟩), (17, ⟨M_f9, R_f9, p_f9, g_f9⟩), (18, ⟨M_fg, R_fg, p_fg, g_fg⟩), (19, ⟨M_fk, R_fk, fun _ => true, g_fk⟩), (53, ⟨M_fb, R_fb, p_fb, g_fb⟩), (54, ⟨M_ed, R_ed, p_ed, g_ed⟩)]) (keepOf [(pt9, (⟨[(3, .asis), (4, .asis), (5, .asis), (13, .asis)], [(3, .asis), (4, .asis), (5, .asis)], []⟩ : Keep)), (pt10, (⟨[(3, .asis), (4, .asis), (5, .asis), (9, .asis), (10, .asis), (11, .asis), (12, .asis)], [(3, .asis), (4, .asis), (5, .asis), (10, .asis), (11, .asis)], []⟩ : Keep)), (pt11, (⟨[(3, .asis), (4, .asis), (5, .asis), (9, .asis)], [(3, .asis), (4, .asis), (5, .asis)], []⟩ : Keep))]) (fzOf [(10, [5])])
abbrev E_lFnHouSpec := evFn (X_lFnHouSpec g_c3 p_c3 g_f5 p_f5 g_f9 p_f9 g_fg p_fg g_fk g_fb p_fb g_ed p_ed) Tryz.f13 R_lFnHouSpec M_lFnHouSpec
def h0_lFnHouSpec (x0 : Dm (.imm L_u8)) (h0 : Dn I) (h1 : Dn S_HouHouse) (h2 : Dn S_ReqReq) (h3 : Dn S_HouHouse) : St := mkS [(3, (AV.ptr 3 none [])), (4, (AV.ptr 4 none [])), (5, (AV.ptr 5 none [])), (9, (AV.val I h0))] [(3, (Ob.box S_HouHouse (AV.val S_HouHouse h1))), (4, (Ob.box S_ReqReq (AV.val S_ReqReq h2))), (5, (Ob.box S_HouHouse (AV.val S_HouHouse h3)))]
def h1_lFnHouSpec (x0 : Dm (.imm L_u8)) (h0 : Dn I) (h1 : Dn I) (h2 : Dn S_HouHouse) (h3 : Dn S_ReqReq) (h4 : Dn S_HouHouse) (h5 : Dn S_BatBatch) (h6 : Dn S_BatBatch) : St := mkS [(3, (AV.ptr 3 none [])), (4, (AV.ptr 4 none [])), (5, (AV.ptr 5 none [])), (9, (AV.val I h0)), (10, (AV.ptr 10 none [])), (11, (AV.ptr 11 none [])), (12, (AV.val I h1))] [(3, (Ob.box S_HouHouse (AV.val S_HouHouse h2))), (4, (Ob.box S_ReqReq (AV.val S_ReqReq h3))), (5, (Ob.box S_HouHouse (AV.val S_HouHouse h4))), (10, (Ob.box S_BatBatch (AV.val S_BatBatch h5))), (11, (Ob.box S_BatBatch (AV.val S_BatBatch h6)))]
def h2_lFnHouSpec (x0 : Dm (.imm L_u8)) (h0 : Dn I) (h1 : Dn S_HouHouse) (h2 : Dn S_ReqReq) (h3 : Dn S_HouHouse) : St := mkS [(3, (AV.ptr 3 none [])), (4, (AV.ptr 4 none [])), (5, (AV.ptr 5 none [])), (13, (AV.val I h0))] [(3, (Ob.box S_HouHouse (AV.val S_HouHouse h1))), (4, (Ob.box S_ReqReq (AV.val S_ReqReq h2))), (5, (Ob.box S_HouHouse (AV.val S_HouHouse h3)))]
def r_lFnHouSpec := rounds (X_lFnHouSpec g_c3 p_c3 g_f5 p_f5 g_f9 p_f9 g_fg p_fg g_fk g_fb p_fb g_ed p_ed) Tryz.f13 R_lFnHouSpec M_lFnHouSpec
variable {g_c3 p_c3 g_f5 p_f5 g_f9 p_f9 g_fg p_fg g_fk g_fb p_fb g_ed p_ed}
theorem ev_lFnHouSpec (k : Nat) (x0 : Dm (.imm L_u8)) : E_lFnHouSpec g_c3 p_c3 g_f5 p_f5 g_f9 p_f9 g_fg p_fg g_fk g_fb p_fb g_ed p_ed k (x0, ()) =
 (bif (decide ((1048576 : Int) < (List.length x0 : Int))) then (some (true, ())) else (cl (p_c3 (x0, ())) (g_c3 (x0, ())) fun y0 => (cl (p_f5 (y0.1, (y0.2.1, ()))) (g_f5 (y0.1, (y0.2.1, ()))) fun y1 => (cl (p_f9 (y0.1, (y0.2.1, ()))) (g_f9 (y0.1, (y0.2.1, ()))) fun y2 => (cl (p_fg (y1.1, (y2.1, ()))) (g_fg (y1.1, (y2.1, ()))) fun y3 => (bif (bif y3.1 then false else true) then (some (false, ())) else (bif (bif (decide (y1.2.1 = y2.2.1)) then false else true) then (some (false, ())) else (bif (decide (y1.2.1 = (0 : Int))) then (bif (decide ((List.length y1.1.2.2 : Int) = (0 : Int))) then (some ((g_fk ()).1, ())) else (some (false, ()))) else (r_lFnHouSpec g_c3 p_c3 g_f5 p_f5 g_f9 p_f9 g_fg p_fg g_fk g_fb p_fb g_ed p_ed (x0, ()) k pt11 (h0_lFnHouSpec x0 (0 : Int) (y0.1) (y0.2.1) (y1.1))))))))))) := by kernel_rfl
theorem rd0_lFnHouSpec (k : Nat) (x0 : Dm (.imm L_u8)) (h0 : Dn I) (h1 : Dn S_HouHouse) (h2 : Dn S_ReqReq) (h3 : Dn S_HouHouse) : r_lFnHouSpec g_c3 p_c3 g_f5 p_f5 g_f9 p_f9 g_fg p_fg g_fk g_fb p_fb g_ed p_ed (x0, ()) (k + 1) pt11 (h0_lFnHouSpec x0 h0 h1 h2 h3) =
 (bif (decide (h0 < (List.length h1.2.2 : Int))) then (bif (bif (decide ((0 : Int) <= h0)) then (decide (h0 < (List.length h1.2.2 : Int))) else false) then (bif (bif (decide ((0 : Int) <= h0)) then (decide (h0 < (List.length h3.2.2 : Int))) else false) then (bif (bif (decide ((rdL (e := S_BatBatch) h1.2.2 h0).1 = (rdL (e := S_BatBatch) h3.2.2 h0).1)) then false else true) then (some (false, ())) else (bif (bif (decide ((List.length (rdL (e := S_BatBatch) h1.2.2 h0).2.2.1 : Int) = (List.length (rdL (e := S_BatBatch) h3.2.2 h0).2.2.1 : Int))) then false else true) then (some (false, ())) else (bif (bif (decide ((rdL (e := S_BatBatch) h1.2.2 h0).2.1 = (rdL (e := S_BatBatch) h3.2.2 h0).2.1)) then false else true) then (some (false, ())) else (r_lFnHouSpec g_c3 p_c3 g_f5 p_f5 g_f9 p_f9 g_fg p_fg g_fk g_fb p_fb g_ed p_ed (x0, ()) k pt10 (h1_lFnHouSpec x0 h0 (0 : Int) h1 h2 h3 (rdL (e := S_BatBatch) h1.2.2 h0) (rdL (e := S_BatBatch) h3.2.2 h0)))))) else none) else none) else (r_lFnHouSpec g_c3 p_c3 g_f5 p_f5 g_f9 p_f9 g_fg p_fg g_fk g_fb p_fb g_ed p_ed (x0, ()) k pt9 (h2_lFnHouSpec x0 (0 : Int) h1 h2 h3))) := by kernel_rfl
theorem rd1_lFnHouSpec (k : Nat) (x0 : Dm (.imm L_u8)) (h0 : Dn I) (h1 : Dn I) (h2 : Dn S_HouHouse) (h3 : Dn S_ReqReq) (h4 : Dn S_HouHouse) (h5 : Dn S_BatBatch) (h6 : Dn S_BatBatch) : r_lFnHouSpec g_c3 p_c3 g_f5 p_f5 g_f9 p_f9 g_fg p_fg g_fk g_fb p_fb g_ed p_ed (x0, ()) (k + 1) pt10 (h1_lFnHouSpec x0 h0 h1 h2 h3 h4 h5 h6) =
 (bif (decide (h1 < (List.length h5.2.2.1 : Int))) then (bif (bif (decide ((0 : Int) <= h1)) then (decide (h1 < (List.length h5.2.2.1 : Int))) else false) then (bif (bif (decide ((0 : Int) <= h1)) then (decide (h1 < (List.length h6.2.2.1 : Int))) else false) then (bif (bif (Sh.beq S_SpcTest (rdL (e := S_TstTest) h5.2.2.1 h1).1 (rdL (e := S_TstTest) h6.2.2.1 h1).1) then false else true) then (some (false, ())) else (r_lFnHouSpec g_c3 p_c3 g_f5 p_f5 g_f9 p_f9 g_fg p_fg g_fk g_fb p_fb g_ed p_ed (x0, ()) k pt10 (h1_lFnHouSpec x0 h0 (w64 (h1 + (1 : Int))) h2 h3 h4 h5 h6))) else none) else none) else (r_lFnHouSpec g_c3 p_c3 g_f5 p_f5 g_f9 p_f9 g_fg p_fg g_fk g_fb p_fb g_ed p_ed (x0, ()) k pt11 (h0_lFnHouSpec x0 (w64 (h0 + (1 : Int))) h2 h3 h4))) := by kernel_rfl
theorem rd2_lFnHouSpec (k : Nat) (x0 : Dm (.imm L_u8)) (h0 : Dn I) (h1 : Dn S_HouHouse) (h2 : Dn S_ReqReq) (h3 : Dn S_HouHouse) : r_lFnHouSpec g_c3 p_c3 g_f5 p_f5 g_f9 p_f9 g_fg p_fg g_fk g_fb p_fb g_ed p_ed (x0, ()) (k + 1) pt9 (h2_lFnHouSpec x0 h0 h1 h2 h3) =
 (bif (decide (h0 < (List.length h1.2.1 : Int))) then (bif (bif (decide ((0 : Int) <= h0)) then (decide (h0 < (List.length h1.2.1 : Int))) else false) then (bif (bif (decide ((0 : Int) <= h0)) then (decide (h0 < (List.length h3.2.1 : Int))) else false) then (cl (p_fb ((rdL (e := S_SpcSpec) h1.2.1 h0).1, ((rdL (e := S_SpcSpec) h3.2.1 h0).1, ()))) (g_fb ((rdL (e := S_SpcSpec) h1.2.1 h0).1, ((rdL (e := S_SpcSpec) h3.2.1 h0).1, ()))) fun y0 => (bif (bif y0.1 then false else true) then (some (false, ())) else (r_lFnHouSpec g_c3 p_c3 g_f5 p_f5 g_f9 p_f9 g_fg p_fg g_fk g_fb p_fb g_ed p_ed (x0, ()) k pt9 (h2_lFnHouSpec x0 (w64 (h0 + (1 : Int))) h1 h2 h3)))) else none) else none) else (bif (decide ((List.length h3.2.2 : Int) = (List.length h1.2.2 : Int))) then (some (true, ())) else (bif (bif (decide ((0 : Int) <= (List.length h1.2.2 : Int))) then (decide ((List.length h1.2.2 : Int) < (List.length h3.2.2 : Int))) else false) then (cl (p_ed (h1.2.1, ())) (g_ed (h1.2.1, ())) fun y1 => (bif (decide ((rdL (e := S_BatBatch) h3.2.2 (List.length h1.2.2 : Int)).1 = y1.1)) then (bif (bif (decide ((0 : Int) <= (List.length h1.2.2 : Int))) then (decide ((List.length h1.2.2 : Int) < (List.length h3.2.2 : Int))) else false) then (bif (decide ((rdL (e := S_BatBatch) h3.2.2 (List.length h1.2.2 : Int)).2.1 = h2.2.2.2.2.1)) then (some ((decide (h2.2.1 = (3 : Int))), ())) else (some (false, ()))) else none) else (some (false, ())))) else none))) := by kernel_rfl
theorem S_lFnHouSpec (h_c3 : C_c3 p_c3 g_c3) (h_f5 : C_f5 p_f5 g_f5) (h_f9 : C_f9 p_f9 g_f9) (h_fg : C_fg p_fg g_fg) (h_fk : C_fk (fun _ => true) g_fk) (h_fb : C_fb p_fb g_fb) (h_ed : C_ed p_ed g_ed) {pre fn} (hev : Hq (E_lFnHouSpec g_c3 p_c3 g_f5 p_f5 g_f9 p_f9 g_fg p_fg g_fk g_fb p_fb g_ed p_ed) pre fn) : C_lFnHouSpec pre fn := sound tysOk mixed (fn := Tryz.f13) rfl rfl rfl (.cons h_c3 (.cons h_f5 (.cons h_f9 (.cons h_fg (.cons h_fk (.cons h_fb (.cons h_ed .nil))))))) _ hev
end
end
end Go.Proofs.YtddpemilmeijfaaGreat
