/- The functions of the seat, evaluated: equations, checked by the kernel. Made by a program. -/
import Derived.Test.YtddpemilmeijfaaGreatFnHouStatesEq0
set_option linter.unusedVariables false
set_option maxRecDepth 100000
namespace Go.Proofs.YtddpemilmeijfaaGreat
open Go.Vm
noncomputable section
abbrev M_cw : Lm := [.imm L_DecDec, .clo 196 [S_TstTest]]
abbrev R_cw : Lr := [(.imm, .bool)]
abbrev In_cw := Iq M_cw
abbrev Out_cw := Oq R_cw M_cw
abbrev C_cw := Cq 193 M_cw R_cw
section
variable (g_cv : In_cv -> Out_cv) (p_cv : In_cv -> Bool)
abbrev X_cw : Ctx := ctx tys 9 (conOf [(211, ⟨M_cv, R_cv, p_cv, g_cv⟩)]) (keepOf []) nF
abbrev E_cw := evFn (X_cw g_cv p_cv) Tryz.f193 R_cw M_cw
variable {g_cv p_cv}
theorem ev_cw (k : Nat) (x0 : Dm (.imm L_DecDec)) (x1 : Dm (.clo 196 [S_TstTest])) : E_cw g_cv p_cv k (x0, x1, ()) =
 (bif (p_cv (x0, ((x1.1, ()), ()))) then (some ((decide ((0 : Int) <= (g_cv (x0, ((x1.1, ()), ()))).1)), ())) else none) := by kernel_rfl
theorem S_cw (h_cv : C_cv p_cv g_cv) {pre fn} (hev : Hq (E_cw g_cv p_cv) pre fn) : C_cw pre fn := sound tysOk mixed (fn := Tryz.f193) rfl rfl rfl (.cons h_cv .nil) _ hev
end
abbrev M_cx : Lm := [.imm S_TstTest]
abbrev R_cx : Lr := [(.imm, I)]
abbrev In_cx := Iq M_cx
abbrev Out_cx := Oq R_cx M_cx
abbrev C_cx := Cq 156 M_cx R_cx
section
variable (g_cr : In_cr -> Out_cr) (g_cq : In_cq -> Out_cq) (g_ct : In_ct -> Out_ct) (p_ct : In_ct -> Bool) (g_cw : In_cw -> Out_cw) (p_cw : In_cw -> Bool)
abbrev X_cx : Ctx := ctx tys 45 (conOf [(157, ⟨M_cr, R_cr, fun _ => true, g_cr⟩), (155, ⟨M_cq, R_cq, fun _ => true, g_cq⟩), (195, ⟨M_ct, R_ct, p_ct, g_ct⟩), (193, ⟨M_cw, R_cw, p_cw, g_cw⟩)]) (keepOf []) nF
abbrev E_cx := evFn (X_cx g_cr g_cq g_ct p_ct g_cw p_cw) Tryz.f156 R_cx M_cx
variable {g_cr g_cq g_ct p_ct g_cw p_cw}
theorem ev_cx (k : Nat) (x0 : Dm (.imm S_TstTest)) : E_cx g_cr g_cq g_ct p_ct g_cw p_cw k (x0, ()) =
 (bif (decide (x0.2.2.2.1 = (0 : Int))) then (bif (bif (g_cr (x0.1, (x0.2.2.1, ()))).1 then false else true) then (some ((1 : Int), ())) else (bif (decide (x0.2.2.2.1 = (0 : Int))) then (some ((3 : Int), ())) else (bif (decide ((List.length x0.2.2.2.2 : Int) < (g_cq (x0.2.2.2.1, ())).1)) then (some ((2 : Int), ())) else (bif (bif (decide (x0.2.2.2.1 = (3 : Int))) then false else true) then (bif (p_ct (x0, ())) then (bif (g_cr (x0.1, ((g_ct (x0, ())).1, ()))).1 then (bif (p_cw (x0.2.2.2.2, ((x0, ()), ()))) then (bif (bif (g_cw (x0.2.2.2.2, ((x0, ()), ()))).1 then false else true) then (some ((3 : Int), ())) else (some ((4 : Int), ()))) else none) else (some ((4 : Int), ()))) else none) else (some ((4 : Int), ())))))) else (bif (decide (x0.2.2.2.1 = (0 : Int))) then (some ((3 : Int), ())) else (bif (decide ((List.length x0.2.2.2.2 : Int) < (g_cq (x0.2.2.2.1, ())).1)) then (some ((2 : Int), ())) else (bif (bif (decide (x0.2.2.2.1 = (3 : Int))) then false else true) then (bif (p_ct (x0, ())) then (bif (g_cr (x0.1, ((g_ct (x0, ())).1, ()))).1 then (bif (p_cw (x0.2.2.2.2, ((x0, ()), ()))) then (bif (bif (g_cw (x0.2.2.2.2, ((x0, ()), ()))).1 then false else true) then (some ((3 : Int), ())) else (some ((4 : Int), ()))) else none) else (some ((4 : Int), ()))) else none) else (some ((4 : Int), ())))))) := by kernel_rfl
theorem S_cx (h_cr : C_cr (fun _ => true) g_cr) (h_cq : C_cq (fun _ => true) g_cq) (h_ct : C_ct p_ct g_ct) (h_cw : C_cw p_cw g_cw) {pre fn} (hev : Hq (E_cx g_cr g_cq g_ct p_ct g_cw p_cw) pre fn) : C_cx pre fn := sound tysOk mixed (fn := Tryz.f156) rfl rfl rfl (.cons h_cr (.cons h_cq (.cons h_ct (.cons h_cw .nil)))) _ hev
end
abbrev M_cy : Lm := [.imm S_TstTest]
abbrev R_cy : Lr := [(.imm, .bool)]
abbrev In_cy := Iq M_cy
abbrev Out_cy := Oq R_cy M_cy
abbrev C_cy := Cq 88 M_cy R_cy
section
variable (g_cj : In_cj -> Out_cj) (g_cd : In_cd -> Out_cd) (g_cp : In_cp -> Out_cp) (p_cp : In_cp -> Bool) (g_iin : In_iin -> Out_iin) (g_cq : In_cq -> Out_cq) (g_cx : In_cx -> Out_cx) (p_cx : In_cx -> Bool) (g_cr : In_cr -> Out_cr)
abbrev X_cy : Ctx := ctx tys 64 (conOf [(142, ⟨M_cj, R_cj, fun _ => true, g_cj⟩), (75, ⟨M_cd, R_cd, fun _ => true, g_cd⟩), (154, ⟨M_cp, R_cp, p_cp, g_cp⟩), (65, ⟨M_iin, R_iin, fun _ => true, g_iin⟩), (155, ⟨M_cq, R_cq, fun _ => true, g_cq⟩), (156, ⟨M_cx, R_cx, p_cx, g_cx⟩), (157, ⟨M_cr, R_cr, fun _ => true, g_cr⟩)]) (keepOf []) nF
abbrev E_cy := evFn (X_cy g_cj g_cd g_cp p_cp g_iin g_cq g_cx p_cx g_cr) Tryz.f88 R_cy M_cy
variable {g_cj g_cd g_cp p_cp g_iin g_cq g_cx p_cx g_cr}
theorem ev_cy (k : Nat) (x0 : Dm (.imm S_TstTest)) : E_cy g_cj g_cd g_cp p_cp g_iin g_cq g_cx p_cx g_cr k (x0, ()) =
 (bif (bif (g_cj (x0.1, ())).1 then false else true) then (some (false, ())) else (bif (bif (g_cd (x0.2.2.1, ())).1 then false else true) then (some (false, ())) else (bif (p_cp (x0.2.2.2.2, ())) then (bif (bif (g_cp (x0.2.2.2.2, ())).1 then false else true) then (some (false, ())) else (bif (bif (g_iin (x0.2.2.2.1, ((0 : Int), ((3 : Int), ())))).1 then false else true) then (some (false, ())) else (bif (decide ((g_cq (x0.2.2.2.1, ())).1 < (List.length x0.2.2.2.2 : Int))) then (some (false, ())) else (bif (decide (x0.2.1 = (0 : Int))) then (bif (Sh.beq S_DecDec x0.2.2.1 ((0 : Int), (0 : Int))) then (some ((decide (x0.2.2.2.1 = (0 : Int))), ())) else (some (false, ()))) else (bif (p_cx (x0, ())) then (bif (decide (x0.2.1 = (g_cx (x0, ())).1)) then (bif (decide (x0.2.2.2.1 = (0 : Int))) then (some (true, ())) else (some ((bif (g_cr (x0.1, (x0.2.2.1, ()))).1 then false else true), ()))) else (some (false, ()))) else none))))) else none))) := by kernel_rfl
theorem S_cy (h_cj : C_cj (fun _ => true) g_cj) (h_cd : C_cd (fun _ => true) g_cd) (h_cp : C_cp p_cp g_cp) (h_iin : C_iin (fun _ => true) g_iin) (h_cq : C_cq (fun _ => true) g_cq) (h_cx : C_cx p_cx g_cx) (h_cr : C_cr (fun _ => true) g_cr) {pre fn} (hev : Hq (E_cy g_cj g_cd g_cp p_cp g_iin g_cq g_cx p_cx g_cr) pre fn) : C_cy pre fn := sound tysOk mixed (fn := Tryz.f88) rfl rfl rfl (.cons h_cj (.cons h_cd (.cons h_cp (.cons h_iin (.cons h_cq (.cons h_cx (.cons h_cr .nil))))))) _ hev
end
abbrev M_cz : Lm := [.imm I]
abbrev R_cz : Lr := [(.imm, .bool)]
abbrev In_cz := Iq M_cz
abbrev Out_cz := Oq R_cz M_cz
abbrev C_cz := Cq 77 M_cz R_cz
section
variable (g_iin : In_iin -> Out_iin)
abbrev X_cz : Ctx := ctx tys 5 (conOf [(65, ⟨M_iin, R_iin, fun _ => true, g_iin⟩)]) (keepOf []) nF
abbrev E_cz := evFn (X_cz g_iin) Tryz.f77 R_cz M_cz
variable {g_iin}
theorem ev_cz (k : Nat) (x0 : Dm (.imm I)) : E_cz g_iin k (x0, ()) =
 (some ((g_iin (x0, ((1 : Int), ((5 : Int), ())))).1, ())) := by kernel_rfl
theorem S_cz (h_iin : C_iin (fun _ => true) g_iin) {pre fn} (hev : Hq (E_cz g_iin) pre fn) : C_cz pre fn := sound tysOk mixed (fn := Tryz.f77) rfl rfl rfl (.cons h_iin .nil) _ hev
end
abbrev M_d0 : Lm := [.imm I]
abbrev R_d0 : Lr := [(.imm, .bool)]
abbrev In_d0 := Iq M_d0
abbrev Out_d0 := Oq R_d0 M_d0
abbrev C_d0 := Cq 85 M_d0 R_d0
abbrev X_d0 : Ctx := ctx tys 9 (conOf []) (keepOf []) nF
abbrev E_d0 := evFn X_d0 Tryz.f85 R_d0 M_d0
theorem ev_d0 (k : Nat) (x0 : Dm (.imm I)) : E_d0 k (x0, ()) =
 (bif (decide (x0 = (2 : Int))) then (some (true, ())) else (some ((decide (x0 = (3 : Int))), ()))) := by kernel_rfl
theorem S_d0  {pre fn} (hev : Hq E_d0 pre fn) : C_d0 pre fn := sound tysOk mixed (fn := Tryz.f85) rfl rfl rfl ConsOk.nil _ hev
abbrev M_d1 : Lm := [.imm S_BatSig]
abbrev R_d1 : Lr := [(.imm, .bool)]
abbrev In_d1 := Iq M_d1
abbrev Out_d1 := Oq R_d1 M_d1
abbrev C_d1 := Cq 90 M_d1 R_d1
section
variable (g_cz : In_cz -> Out_cz) (g_d0 : In_d0 -> Out_d0) (g_iin : In_iin -> Out_iin)
abbrev X_d1 : Ctx := ctx tys 16 (conOf [(77, ⟨M_cz, R_cz, fun _ => true, g_cz⟩), (85, ⟨M_d0, R_d0, fun _ => true, g_d0⟩), (65, ⟨M_iin, R_iin, fun _ => true, g_iin⟩)]) (keepOf []) nF
abbrev E_d1 := evFn (X_d1 g_cz g_d0 g_iin) Tryz.f90 R_d1 M_d1
variable {g_cz g_d0 g_iin}
theorem ev_d1 (k : Nat) (x0 : Dm (.imm S_BatSig)) : E_d1 g_cz g_d0 g_iin k (x0, ()) =
 (bif (g_cz (x0.1, ())).1 then (bif (g_d0 (x0.2.1, ())).1 then (some ((g_iin (x0.2.2, ((0 : Int), ((999982 : Int), ())))).1, ())) else (some (false, ()))) else (some (false, ()))) := by kernel_rfl
theorem S_d1 (h_cz : C_cz (fun _ => true) g_cz) (h_d0 : C_d0 (fun _ => true) g_d0) (h_iin : C_iin (fun _ => true) g_iin) {pre fn} (hev : Hq (E_d1 g_cz g_d0 g_iin) pre fn) : C_d1 pre fn := sound tysOk mixed (fn := Tryz.f90) rfl rfl rfl (.cons h_cz (.cons h_d0 (.cons h_iin .nil))) _ hev
end
abbrev M_d2 : Lm := [.imm S_BatSig]
abbrev R_d2 : Lr := [(.imm, .bool)]
abbrev In_d2 := Iq M_d2
abbrev Out_d2 := Oq R_d2 M_d2
abbrev C_d2 := Cq 89 M_d2 R_d2
section
variable (g_d1 : In_d1 -> Out_d1)
abbrev X_d2 : Ctx := ctx tys 6 (conOf [(90, ⟨M_d1, R_d1, fun _ => true, g_d1⟩)]) (keepOf []) nF
abbrev E_d2 := evFn (X_d2 g_d1) Tryz.f89 R_d2 M_d2
variable {g_d1}
theorem ev_d2 (k : Nat) (x0 : Dm (.imm S_BatSig)) : E_d2 g_d1 k (x0, ()) =
 (some ((bif (g_d1 (x0, ())).1 then false else true), ())) := by kernel_rfl
theorem S_d2 (h_d1 : C_d1 (fun _ => true) g_d1) {pre fn} (hev : Hq (E_d2 g_d1) pre fn) : C_d2 pre fn := sound tysOk mixed (fn := Tryz.f89) rfl rfl rfl (.cons h_d1 .nil) _ hev
end
abbrev M_d3 : Lm := [.imm L_BatSig, .clo 89 []]
abbrev R_d3 : Lr := [(.imm, I)]
abbrev In_d3 := Iq M_d3
abbrev Out_d3 := Oq R_d3 M_d3
abbrev C_d3 := Cq 158 M_d3 R_d3
section
variable (g_d2 : In_d2 -> Out_d2) (p_d2 : In_d2 -> Bool)
abbrev X_d3 : Ctx := ctx tys 19 (conOf [(89, ⟨M_d2, R_d2, p_d2, g_d2⟩)]) (keepOf [(pt1, (⟨[(0, .asis), (1, .asis), (7, .asis), (8, .asis)], [], []⟩ : Keep))]) nF
abbrev E_d3 := evFn (X_d3 g_d2 p_d2) Tryz.f158 R_d3 M_d3
def h0_d3 (x0 : Dm (.imm L_BatSig)) (x1 : Dm (.clo 89 [])) (h0 : Dn I) (h1 : Dn I) : St := mkS [(0, (AV.val L_BatSig x0)), (1, (AV.fn 89 [])), (7, (AV.val I h0)), (8, (AV.val I h1))] []
def r_d3 := rounds (X_d3 g_d2 p_d2) Tryz.f158 R_d3 M_d3
variable {g_d2 p_d2}
theorem ev_d3 (k : Nat) (x0 : Dm (.imm L_BatSig)) (x1 : Dm (.clo 89 [])) : E_d3 g_d2 p_d2 k (x0, x1, ()) =
 (r_d3 g_d2 p_d2 (x0, x1, ()) k pt1 (h0_d3 x0 x1 (List.length x0 : Int) (0 : Int))) := by kernel_rfl
theorem rd0_d3 (k : Nat) (x0 : Dm (.imm L_BatSig)) (x1 : Dm (.clo 89 [])) (h0 : Dn I) (h1 : Dn I) : r_d3 g_d2 p_d2 (x0, x1, ()) (k + 1) pt1 (h0_d3 x0 x1 h0 h1) =
 (bif (decide (h1 < h0)) then (bif (bif (decide ((0 : Int) <= h1)) then (decide (h1 < (List.length x0 : Int))) else false) then (cl (p_d2 ((rdL (e := S_BatSig) x0 h1), ())) (g_d2 ((rdL (e := S_BatSig) x0 h1), ())) fun y0 => (bif y0.1 then (some (h1, ())) else (r_d3 g_d2 p_d2 (x0, x1, ()) k pt1 (h0_d3 x0 x1 h0 (w64 (h1 + (1 : Int))))))) else none) else (some ((-1 : Int), ()))) := by kernel_rfl
theorem S_d3 (h_d2 : C_d2 p_d2 g_d2) {pre fn} (hev : Hq (E_d3 g_d2 p_d2) pre fn) : C_d3 pre fn := sound tysOk mixed (fn := Tryz.f158) rfl rfl rfl (.cons h_d2 .nil) _ hev
end
abbrev M_d4 : Lm := [.imm L_BatSig, .clo 89 []]
abbrev R_d4 : Lr := [(.imm, .bool)]
abbrev In_d4 := Iq M_d4
abbrev Out_d4 := Oq R_d4 M_d4
abbrev C_d4 := Cq 91 M_d4 R_d4
section
variable (g_d3 : In_d3 -> Out_d3) (p_d3 : In_d3 -> Bool)
abbrev X_d4 : Ctx := ctx tys 9 (conOf [(158, ⟨M_d3, R_d3, p_d3, g_d3⟩)]) (keepOf []) nF
abbrev E_d4 := evFn (X_d4 g_d3 p_d3) Tryz.f91 R_d4 M_d4
variable {g_d3 p_d3}
theorem ev_d4 (k : Nat) (x0 : Dm (.imm L_BatSig)) (x1 : Dm (.clo 89 [])) : E_d4 g_d3 p_d3 k (x0, x1, ()) =
 (cl (p_d3 (x0, ((), ()))) (g_d3 (x0, ((), ()))) fun y0 => (some ((decide ((0 : Int) <= y0.1)), ()))) := by kernel_rfl
theorem S_d4 (h_d3 : C_d3 p_d3 g_d3) {pre fn} (hev : Hq (E_d4 g_d3 p_d3) pre fn) : C_d4 pre fn := sound tysOk mixed (fn := Tryz.f91) rfl rfl rfl (.cons h_d3 .nil) _ hev
end
abbrev M_d5 : Lm := [.imm S_TstTest]
abbrev R_d5 : Lr := [(.imm, .bool)]
abbrev In_d5 := Iq M_d5
abbrev Out_d5 := Oq R_d5 M_d5
abbrev C_d5 := Cq 144 M_d5 R_d5
abbrev X_d5 : Ctx := ctx tys 6 (conOf []) (keepOf []) nF
abbrev E_d5 := evFn X_d5 Tryz.f144 R_d5 M_d5
theorem ev_d5 (k : Nat) (x0 : Dm (.imm S_TstTest)) : E_d5 k (x0, ()) =
 (some ((bif (decide (x0.2.1 = (3 : Int))) then false else true), ())) := by kernel_rfl
theorem S_d5  {pre fn} (hev : Hq E_d5 pre fn) : C_d5 pre fn := sound tysOk mixed (fn := Tryz.f144) rfl rfl rfl ConsOk.nil _ hev
abbrev M_d6 : Lm := [.imm L_TstTest, .clo 144 []]
abbrev R_d6 : Lr := [(.imm, I)]
abbrev In_d6 := Iq M_d6
abbrev Out_d6 := Oq R_d6 M_d6
abbrev C_d6 := Cq 96 M_d6 R_d6
section
variable (g_d5 : In_d5 -> Out_d5)
abbrev X_d6 : Ctx := ctx tys 19 (conOf [(144, ⟨M_d5, R_d5, fun _ => true, g_d5⟩)]) (keepOf [(pt1, (⟨[(0, .asis), (1, .asis), (7, .asis), (8, .asis)], [], []⟩ : Keep))]) nF
abbrev E_d6 := evFn (X_d6 g_d5) Tryz.f96 R_d6 M_d6
def h0_d6 (x0 : Dm (.imm L_TstTest)) (x1 : Dm (.clo 144 [])) (h0 : Dn I) (h1 : Dn I) : St := mkS [(0, (AV.val L_TstTest x0)), (1, (AV.fn 144 [])), (7, (AV.val I h0)), (8, (AV.val I h1))] []
def r_d6 := rounds (X_d6 g_d5) Tryz.f96 R_d6 M_d6
variable {g_d5}
theorem ev_d6 (k : Nat) (x0 : Dm (.imm L_TstTest)) (x1 : Dm (.clo 144 [])) : E_d6 g_d5 k (x0, x1, ()) =
 (r_d6 g_d5 (x0, x1, ()) k pt1 (h0_d6 x0 x1 (List.length x0 : Int) (0 : Int))) := by kernel_rfl
theorem rd0_d6 (k : Nat) (x0 : Dm (.imm L_TstTest)) (x1 : Dm (.clo 144 [])) (h0 : Dn I) (h1 : Dn I) : r_d6 g_d5 (x0, x1, ()) (k + 1) pt1 (h0_d6 x0 x1 h0 h1) =
 (bif (decide (h1 < h0)) then (bif (bif (decide ((0 : Int) <= h1)) then (decide (h1 < (List.length x0 : Int))) else false) then (bif (g_d5 ((rdL (e := S_TstTest) x0 h1), ())).1 then (some (h1, ())) else (r_d6 g_d5 (x0, x1, ()) k pt1 (h0_d6 x0 x1 h0 (w64 (h1 + (1 : Int)))))) else none) else (some ((-1 : Int), ()))) := by kernel_rfl
theorem S_d6 (h_d5 : C_d5 (fun _ => true) g_d5) {pre fn} (hev : Hq (E_d6 g_d5) pre fn) : C_d6 pre fn := sound tysOk mixed (fn := Tryz.f96) rfl rfl rfl (.cons h_d5 .nil) _ hev
end
abbrev M_d7 : Lm := [.imm L_TstTest, .clo 144 []]
abbrev R_d7 : Lr := [(.imm, .bool)]
abbrev In_d7 := Iq M_d7
abbrev Out_d7 := Oq R_d7 M_d7
abbrev C_d7 := Cq 145 M_d7 R_d7
section
variable (g_d6 : In_d6 -> Out_d6) (p_d6 : In_d6 -> Bool)
abbrev X_d7 : Ctx := ctx tys 9 (conOf [(96, ⟨M_d6, R_d6, p_d6, g_d6⟩)]) (keepOf []) nF
abbrev E_d7 := evFn (X_d7 g_d6 p_d6) Tryz.f145 R_d7 M_d7
variable {g_d6 p_d6}
theorem ev_d7 (k : Nat) (x0 : Dm (.imm L_TstTest)) (x1 : Dm (.clo 144 [])) : E_d7 g_d6 p_d6 k (x0, x1, ()) =
 (cl (p_d6 (x0, ((), ()))) (g_d6 (x0, ((), ()))) fun y0 => (some ((decide ((0 : Int) <= y0.1)), ()))) := by kernel_rfl
theorem S_d7 (h_d6 : C_d6 p_d6 g_d6) {pre fn} (hev : Hq (E_d7 g_d6 p_d6) pre fn) : C_d7 pre fn := sound tysOk mixed (fn := Tryz.f145) rfl rfl rfl (.cons h_d6 .nil) _ hev
end
abbrev M_d8 : Lm := [.imm L_bool, .imm .bool]
abbrev R_d8 : Lr := [(.imm, I)]
abbrev In_d8 := Iq M_d8
abbrev Out_d8 := Oq R_d8 M_d8
abbrev C_d8 := Cq 189 M_d8 R_d8
abbrev X_d8 : Ctx := ctx tys 19 (conOf []) (keepOf [(pt1, (⟨[(0, .asis), (1, .asis), (7, .asis), (8, .asis)], [], []⟩ : Keep))]) nF
abbrev E_d8 := evFn X_d8 Tryz.f189 R_d8 M_d8
def h0_d8 (x0 : Dm (.imm L_bool)) (x1 : Dm (.imm .bool)) (h0 : Dn I) (h1 : Dn I) : St := mkS [(0, (AV.val L_bool x0)), (1, (AV.val Sh.bool x1)), (7, (AV.val I h0)), (8, (AV.val I h1))] []
def r_d8 := rounds X_d8 Tryz.f189 R_d8 M_d8
theorem ev_d8 (k : Nat) (x0 : Dm (.imm L_bool)) (x1 : Dm (.imm .bool)) : E_d8 k (x0, x1, ()) =
 (r_d8  (x0, x1, ()) k pt1 (h0_d8 x0 x1 (List.length x0 : Int) (0 : Int))) := by kernel_rfl
theorem rd0_d8 (k : Nat) (x0 : Dm (.imm L_bool)) (x1 : Dm (.imm .bool)) (h0 : Dn I) (h1 : Dn I) : r_d8  (x0, x1, ()) (k + 1) pt1 (h0_d8 x0 x1 h0 h1) =
 (bif (decide (h1 < h0)) then (bif (bif (decide ((0 : Int) <= h1)) then (decide (h1 < (List.length x0 : Int))) else false) then (bif (x1 == (rdL (e := Sh.bool) x0 h1)) then (some (h1, ())) else (r_d8  (x0, x1, ()) k pt1 (h0_d8 x0 x1 h0 (w64 (h1 + (1 : Int)))))) else none) else (some ((-1 : Int), ()))) := by kernel_rfl
theorem S_d8  {pre fn} (hev : Hq E_d8 pre fn) : C_d8 pre fn := sound tysOk mixed (fn := Tryz.f189) rfl rfl rfl ConsOk.nil _ hev
abbrev M_d9 : Lm := [.imm L_bool, .imm .bool]
abbrev R_d9 : Lr := [(.imm, .bool)]
abbrev In_d9 := Iq M_d9
abbrev Out_d9 := Oq R_d9 M_d9
abbrev C_d9 := Cq 146 M_d9 R_d9
section
variable (g_d8 : In_d8 -> Out_d8) (p_d8 : In_d8 -> Bool)
abbrev X_d9 : Ctx := ctx tys 9 (conOf [(189, ⟨M_d8, R_d8, p_d8, g_d8⟩)]) (keepOf []) nF
abbrev E_d9 := evFn (X_d9 g_d8 p_d8) Tryz.f146 R_d9 M_d9
variable {g_d8 p_d8}
theorem ev_d9 (k : Nat) (x0 : Dm (.imm L_bool)) (x1 : Dm (.imm .bool)) : E_d9 g_d8 p_d8 k (x0, x1, ()) =
 (cl (p_d8 (x0, (x1, ()))) (g_d8 (x0, (x1, ()))) fun y0 => (some ((decide ((0 : Int) <= y0.1)), ()))) := by kernel_rfl
theorem S_d9 (h_d8 : C_d8 p_d8 g_d8) {pre fn} (hev : Hq (E_d9 g_d8 p_d8) pre fn) : C_d9 pre fn := sound tysOk mixed (fn := Tryz.f146) rfl rfl rfl (.cons h_d8 .nil) _ hev
end
abbrev M_da : Lm := [.imm I, .imm L_int]
abbrev R_da : Lr := [(.imm, I)]
abbrev In_da := Iq M_da
abbrev Out_da := Oq R_da M_da
abbrev C_da := Cq 82 M_da R_da
abbrev X_da : Ctx := ctx tys 23 (conOf []) (keepOf [(pt1, (⟨[(0, .asis), (7, .asis), (8, .asis), (9, .asis)], [], []⟩ : Keep))]) nF
abbrev E_da := evFn X_da Tryz.f82 R_da M_da
def h0_da (x0 : Dm (.imm I)) (x1 : Dm (.imm L_int)) (h0 : Dn I) (h1 : Dn I) (h2 : Dn I) : St := mkS [(0, (AV.val I h0)), (7, (AV.val L_int x1)), (8, (AV.val I h1)), (9, (AV.val I h2))] []
def r_da := rounds X_da Tryz.f82 R_da M_da
theorem ev_da (k : Nat) (x0 : Dm (.imm I)) (x1 : Dm (.imm L_int)) : E_da k (x0, x1, ()) =
 (r_da  (x0, x1, ()) k pt1 (h0_da x0 x1 x0 (List.length x1 : Int) (0 : Int))) := by kernel_rfl
theorem rd0_da (k : Nat) (x0 : Dm (.imm I)) (x1 : Dm (.imm L_int)) (h0 : Dn I) (h1 : Dn I) (h2 : Dn I) : r_da  (x0, x1, ()) (k + 1) pt1 (h0_da x0 x1 h0 h1 h2) =
 (bif (decide (h2 < h1)) then (bif (bif (decide ((0 : Int) <= h2)) then (decide (h2 < (List.length x1 : Int))) else false) then (bif (bif (decide ((999983 : Int) = (0 : Int))) then false else true) then (bif (bif (decide ((999983 : Int) = (0 : Int))) then false else true) then (r_da  (x0, x1, ()) k pt1 (h0_da x0 x1 (Int.tmod (w64 ((w64 ((w64 ((w64 (h0 * (8191 : Int))) + (Int.tmod (rdL (e := I) x1 h2) (999983 : Int)))) + (999983 : Int))) + (7 : Int))) (999983 : Int)) h1 (w64 (h2 + (1 : Int))))) else none) else none) else none) else (some (h0, ()))) := by kernel_rfl
theorem S_da  {pre fn} (hev : Hq E_da pre fn) : C_da pre fn := sound tysOk mixed (fn := Tryz.f82) rfl rfl rfl ConsOk.nil _ hev
abbrev M_db : Lm := [.imm S_BatBatch]
abbrev R_db : Lr := [(.imm, I)]
abbrev In_db := Iq M_db
abbrev Out_db := Oq R_db M_db
abbrev C_db := Cq 29 M_db R_db
section
variable (g_da : In_da -> Out_da) (p_da : In_da -> Bool)
abbrev X_db : Ctx := ctx tys 69 (conOf [(82, ⟨M_da, R_da, p_da, g_da⟩)]) (keepOf [(pt2, (⟨[(3, .asis), (51, .asis), (52, .asis), (53, .asis)], [], []⟩ : Keep)), (pt8, (⟨[(1, .asis), (3, .asis), (15, .asis), (16, .asis), (17, .asis), (35, .asis), (36, .asis), (37, .asis)], [(1, .asis)], []⟩ : Keep)), (pt0, (⟨[(1, .asis), (3, .asis), (15, .asis), (16, .asis), (17, .asis)], [(1, .asis)], []⟩ : Keep))]) nF
abbrev E_db := evFn (X_db g_da p_da) Tryz.f29 R_db M_db
def h0_db (x0 : Dm (.imm S_BatBatch)) (h0 : Dn I) (h1 : Dn I) (h2 : Dn I) : St := mkS [(1, (AV.ptr 1 none [])), (3, (AV.val I h0)), (15, (AV.val L_TstTest x0.2.2.1)), (16, (AV.val I h1)), (17, (AV.val I h2))] [(1, (Ob.box S_BatBatch (AV.val S_BatBatch x0)))]
def h1_db (x0 : Dm (.imm S_BatBatch)) (h0 : Dn I) (h1 : Dn I) (h2 : Dn I) (h3 : Dn L_DecDec) (h4 : Dn I) (h5 : Dn I) : St := mkS [(1, (AV.ptr 1 none [])), (3, (AV.val I h0)), (15, (AV.val L_TstTest x0.2.2.1)), (16, (AV.val I h1)), (17, (AV.val I h2)), (35, (AV.val L_DecDec h3)), (36, (AV.val I h4)), (37, (AV.val I h5))] [(1, (Ob.box S_BatBatch (AV.val S_BatBatch x0)))]
def h2_db (x0 : Dm (.imm S_BatBatch)) (h0 : Dn I) (h1 : Dn I) (h2 : Dn I) : St := mkS [(3, (AV.val I h0)), (51, (AV.val L_bool x0.2.2.2.2.2)), (52, (AV.val I h1)), (53, (AV.val I h2))] []
def r_db := rounds (X_db g_da p_da) Tryz.f29 R_db M_db
variable {g_da p_da}
theorem ev_db (k : Nat) (x0 : Dm (.imm S_BatBatch)) : E_db g_da p_da k (x0, ()) =
 (cl (p_da ((1 : Int), ([x0.1], ()))) (g_da ((1 : Int), ([x0.1], ()))) fun y0 => (r_db g_da p_da (x0, ()) k pt0 (h0_db x0 (y0.1) (List.length x0.2.2.1 : Int) (0 : Int)))) := by kernel_rfl
theorem rd0_db (k : Nat) (x0 : Dm (.imm S_BatBatch)) (h0 : Dn I) (h1 : Dn I) (h2 : Dn I) : r_db g_da p_da (x0, ()) (k + 1) pt0 (h0_db x0 h0 h1 h2) =
 (lt (rdL (e := S_TstTest) x0.2.2.1 h2) fun s0 => (bif (decide (h2 < h1)) then (bif (bif (decide ((0 : Int) <= h2)) then (decide (h2 < (List.length x0.2.2.1 : Int))) else false) then (cl (p_da (h0, ([(s0.2.1), (s0.2.2.1.1), (s0.2.2.1.2), (s0.2.2.2.1)], ()))) (g_da (h0, ([(s0.2.1), (s0.2.2.1.1), (s0.2.2.1.2), (s0.2.2.2.1)], ()))) fun y0 => (r_db g_da p_da (x0, ()) k pt8 (h1_db x0 (y0.1) h1 h2 (s0.2.2.2.2) (List.length s0.2.2.2.2 : Int) (0 : Int)))) else none) else (r_db g_da p_da (x0, ()) k pt2 (h2_db x0 h0 (List.length x0.2.2.2.2.2 : Int) (0 : Int))))) := by kernel_rfl
theorem rd1_db (k : Nat) (x0 : Dm (.imm S_BatBatch)) (h0 : Dn I) (h1 : Dn I) (h2 : Dn I) (h3 : Dn L_DecDec) (h4 : Dn I) (h5 : Dn I) : r_db g_da p_da (x0, ()) (k + 1) pt8 (h1_db x0 h0 h1 h2 h3 h4 h5) =
 (bif (decide (h5 < h4)) then (bif (bif (decide ((0 : Int) <= h5)) then (decide (h5 < (List.length h3 : Int))) else false) then (cl (p_da (h0, ([((rdL (e := S_DecDec) h3 h5).1), ((rdL (e := S_DecDec) h3 h5).2)], ()))) (g_da (h0, ([((rdL (e := S_DecDec) h3 h5).1), ((rdL (e := S_DecDec) h3 h5).2)], ()))) fun y0 => (r_db g_da p_da (x0, ()) k pt8 (h1_db x0 (y0.1) h1 h2 h3 h4 (w64 (h5 + (1 : Int)))))) else none) else (r_db g_da p_da (x0, ()) k pt0 (h0_db x0 h0 h1 (w64 (h2 + (1 : Int)))))) := by kernel_rfl
theorem rd2_db (k : Nat) (x0 : Dm (.imm S_BatBatch)) (h0 : Dn I) (h1 : Dn I) (h2 : Dn I) : r_db g_da p_da (x0, ()) (k + 1) pt2 (h2_db x0 h0 h1 h2) =
 (bif (decide (h2 < h1)) then (bif (bif (decide ((0 : Int) <= h2)) then (decide (h2 < (List.length x0.2.2.2.2.2 : Int))) else false) then (cl (p_da (h0, ([(w64 (h2 + (1 : Int)))], ()))) (g_da (h0, ([(w64 (h2 + (1 : Int)))], ()))) fun y0 => (bif (rdL (e := Sh.bool) x0.2.2.2.2.2 h2) then (cl (p_da (y0.1, ([(77 : Int)], ()))) (g_da (y0.1, ([(77 : Int)], ()))) fun y1 => (r_db g_da p_da (x0, ()) k pt2 (h2_db x0 (y1.1) h1 (w64 (h2 + (1 : Int)))))) else (r_db g_da p_da (x0, ()) k pt2 (h2_db x0 (y0.1) h1 (w64 (h2 + (1 : Int))))))) else none) else (some (h0, ()))) := by kernel_rfl
theorem S_db (h_da : C_da p_da g_da) {pre fn} (hev : Hq (E_db g_da p_da) pre fn) : C_db pre fn := sound tysOk mixed (fn := Tryz.f29) rfl rfl rfl (.cons h_da .nil) _ hev
end
abbrev M_dc : Lm := [.imm S_BatBatch, .imm I, .imm I]
abbrev R_dc : Lr := [(.imm, I)]
abbrev In_dc := Iq M_dc
abbrev Out_dc := Oq R_dc M_dc
abbrev C_dc := Cq 33 M_dc R_dc
section
variable (g_db : In_db -> Out_db) (p_db : In_db -> Bool)
abbrev X_dc : Ctx := ctx tys 38 (conOf [(29, ⟨M_db, R_db, p_db, g_db⟩)]) (keepOf [(pt0, (⟨[(1, .asis), (2, .asis), (7, .asis), (13, .asis), (14, .asis), (15, .asis)], [], []⟩ : Keep))]) nF
abbrev E_dc := evFn (X_dc g_db p_db) Tryz.f33 R_dc M_dc
def h0_dc (x0 : Dm (.imm S_BatBatch)) (x1 : Dm (.imm I)) (x2 : Dm (.imm I)) (h0 : Dn I) (h1 : Dn I) (h2 : Dn I) : St := mkS [(1, (AV.val I x1)), (2, (AV.val I x2)), (7, (AV.val I h0)), (13, (AV.val L_BatSig x0.2.2.2.2.1)), (14, (AV.val I h1)), (15, (AV.val I h2))] []
def r_dc := rounds (X_dc g_db p_db) Tryz.f33 R_dc M_dc
variable {g_db p_db}
theorem ev_dc (k : Nat) (x0 : Dm (.imm S_BatBatch)) (x1 : Dm (.imm I)) (x2 : Dm (.imm I)) : E_dc g_db p_db k (x0, x1, x2, ()) =
 (cl (p_db (x0, ())) (g_db (x0, ())) fun y0 => (r_dc g_db p_db (x0, x1, x2, ()) k pt0 (h0_dc x0 x1 x2 (y0.1) (List.length x0.2.2.2.2.1 : Int) (0 : Int)))) := by kernel_rfl
theorem rd0_dc (k : Nat) (x0 : Dm (.imm S_BatBatch)) (x1 : Dm (.imm I)) (x2 : Dm (.imm I)) (h0 : Dn I) (h1 : Dn I) (h2 : Dn I) : r_dc g_db p_db (x0, x1, x2, ()) (k + 1) pt0 (h0_dc x0 x1 x2 h0 h1 h2) =
 (bif (decide (h2 < h1)) then (bif (bif (decide ((0 : Int) <= h2)) then (decide (h2 < (List.length x0.2.2.2.2.1 : Int))) else false) then (bif (decide ((rdL (e := S_BatSig) x0.2.2.2.2.1 h2).2.1 = x1)) then (bif (decide ((rdL (e := S_BatSig) x0.2.2.2.2.1 h2).2.2 = h0)) then (bif (bif (decide ((rdL (e := S_BatSig) x0.2.2.2.2.1 h2).1 = x2)) then false else true) then (some ((rdL (e := S_BatSig) x0.2.2.2.2.1 h2).1, ())) else (r_dc g_db p_db (x0, x1, x2, ()) k pt0 (h0_dc x0 x1 x2 h0 h1 (w64 (h2 + (1 : Int)))))) else (r_dc g_db p_db (x0, x1, x2, ()) k pt0 (h0_dc x0 x1 x2 h0 h1 (w64 (h2 + (1 : Int)))))) else (r_dc g_db p_db (x0, x1, x2, ()) k pt0 (h0_dc x0 x1 x2 h0 h1 (w64 (h2 + (1 : Int)))))) else none) else (some ((0 : Int), ()))) := by kernel_rfl
theorem S_dc (h_db : C_db p_db g_db) {pre fn} (hev : Hq (E_dc g_db p_db) pre fn) : C_dc pre fn := sound tysOk mixed (fn := Tryz.f33) rfl rfl rfl (.cons h_db .nil) _ hev
end
abbrev M_dd : Lm := [.imm S_BatSig, .pR I, .pR S_BatBatch]
abbrev R_dd : Lr := [(.imm, .bool)]
abbrev In_dd := Iq M_dd
abbrev Out_dd := Oq R_dd M_dd
abbrev C_dd := Cq 147 M_dd R_dd
section
variable (g_dc : In_dc -> Out_dc) (p_dc : In_dc -> Bool)
abbrev X_dd : Ctx := ctx tys 21 (conOf [(33, ⟨M_dc, R_dc, p_dc, g_dc⟩)]) (keepOf []) nF
abbrev E_dd := evFn (X_dd g_dc p_dc) Tryz.f147 R_dd M_dd
variable {g_dc p_dc}
theorem ev_dd (k : Nat) (x0 : Dm (.imm S_BatSig)) (x1 : Dm (.pR I)) (x2 : Dm (.pR S_BatBatch)) : E_dd g_dc p_dc k (x0, x1, x2, ()) =
 (bif (decide (x0.2.1 = (2 : Int))) then (bif (decide (x0.2.2 = x1)) then (cl (p_dc (x2, ((3 : Int), (x0.1, ())))) (g_dc (x2, ((3 : Int), (x0.1, ())))) fun y0 => (some ((decide ((0 : Int) < y0.1)), ()))) else (some (false, ()))) else (some (false, ()))) := by kernel_rfl
theorem S_dd (h_dc : C_dc p_dc g_dc) {pre fn} (hev : Hq (E_dd g_dc p_dc) pre fn) : C_dd pre fn := sound tysOk mixed (fn := Tryz.f147) rfl rfl rfl (.cons h_dc .nil) _ hev
end
abbrev M_de : Lm := [.imm L_BatSig, .clo 147 [I, S_BatBatch]]
abbrev R_de : Lr := [(.imm, I)]
abbrev In_de := Iq M_de
abbrev Out_de := Oq R_de M_de
abbrev C_de := Cq 158 M_de R_de
section
variable (g_dd : In_dd -> Out_dd) (p_dd : In_dd -> Bool)
abbrev X_de : Ctx := ctx tys 19 (conOf [(147, ⟨M_dd, R_dd, p_dd, g_dd⟩)]) (keepOf [(pt1, (⟨[(0, .asis), (1, .asis), (7, .asis), (8, .asis)], [(1000005000, .asis), (1000005001, .asis)], []⟩ : Keep))]) nF
abbrev E_de := evFn (X_de g_dd p_dd) Tryz.f158 R_de M_de
def h0_de (x0 : Dm (.imm L_BatSig)) (x1 : Dm (.clo 147 [I, S_BatBatch])) (h0 : Dn I) (h1 : Dn I) : St := mkS [(0, (AV.val L_BatSig x0)), (1, (AV.fn 147 [1000005000, 1000005001])), (7, (AV.val I h0)), (8, (AV.val I h1))] [(1000005000, (Ob.cbox I x1.1)), (1000005001, (Ob.cbox S_BatBatch x1.2.1))]
def r_de := rounds (X_de g_dd p_dd) Tryz.f158 R_de M_de
variable {g_dd p_dd}
theorem ev_de (k : Nat) (x0 : Dm (.imm L_BatSig)) (x1 : Dm (.clo 147 [I, S_BatBatch])) : E_de g_dd p_dd k (x0, x1, ()) =
 (r_de g_dd p_dd (x0, x1, ()) k pt1 (h0_de x0 x1 (List.length x0 : Int) (0 : Int))) := by kernel_rfl
theorem rd0_de (k : Nat) (x0 : Dm (.imm L_BatSig)) (x1 : Dm (.clo 147 [I, S_BatBatch])) (h0 : Dn I) (h1 : Dn I) : r_de g_dd p_dd (x0, x1, ()) (k + 1) pt1 (h0_de x0 x1 h0 h1) =
 (bif (decide (h1 < h0)) then (bif (bif (decide ((0 : Int) <= h1)) then (decide (h1 < (List.length x0 : Int))) else false) then (cl (p_dd ((rdL (e := S_BatSig) x0 h1), (x1.1, (x1.2.1, ())))) (g_dd ((rdL (e := S_BatSig) x0 h1), (x1.1, (x1.2.1, ())))) fun y0 => (bif y0.1 then (some (h1, ())) else (r_de g_dd p_dd (x0, x1, ()) k pt1 (h0_de x0 x1 h0 (w64 (h1 + (1 : Int))))))) else none) else (some ((-1 : Int), ()))) := by kernel_rfl
theorem S_de (h_dd : C_dd p_dd g_dd) {pre fn} (hev : Hq (E_de g_dd p_dd) pre fn) : C_de pre fn := sound tysOk mixed (fn := Tryz.f158) rfl rfl rfl (.cons h_dd .nil) _ hev
end
abbrev M_df : Lm := [.imm L_BatSig, .clo 147 [I, S_BatBatch]]
abbrev R_df : Lr := [(.imm, .bool)]
abbrev In_df := Iq M_df
abbrev Out_df := Oq R_df M_df
abbrev C_df := Cq 91 M_df R_df
section
variable (g_de : In_de -> Out_de) (p_de : In_de -> Bool)
abbrev X_df : Ctx := ctx tys 9 (conOf [(158, ⟨M_de, R_de, p_de, g_de⟩)]) (keepOf []) nF
abbrev E_df := evFn (X_df g_de p_de) Tryz.f91 R_df M_df
variable {g_de p_de}
theorem ev_df (k : Nat) (x0 : Dm (.imm L_BatSig)) (x1 : Dm (.clo 147 [I, S_BatBatch])) : E_df g_de p_de k (x0, x1, ()) =
 (cl (p_de (x0, ((x1.1, (x1.2.1, ())), ()))) (g_de (x0, ((x1.1, (x1.2.1, ())), ()))) fun y0 => (some ((decide ((0 : Int) <= y0.1)), ()))) := by kernel_rfl
theorem S_df (h_de : C_de p_de g_de) {pre fn} (hev : Hq (E_df g_de p_de) pre fn) : C_df pre fn := sound tysOk mixed (fn := Tryz.f91) rfl rfl rfl (.cons h_de .nil) _ hev
end
abbrev M_dg : Lm := [.imm S_BatBatch]
abbrev R_dg : Lr := [(.imm, .bool)]
abbrev In_dg := Iq M_dg
abbrev Out_dg := Oq R_dg M_dg
abbrev C_dg := Cq 79 M_dg R_dg
section
variable (g_d7 : In_d7 -> Out_d7) (p_d7 : In_d7 -> Bool) (g_d9 : In_d9 -> Out_d9) (p_d9 : In_d9 -> Bool) (g_db : In_db -> Out_db) (p_db : In_db -> Bool) (g_df : In_df -> Out_df) (p_df : In_df -> Bool)
abbrev X_dg : Ctx := ctx tys 20 (conOf [(145, ⟨M_d7, R_d7, p_d7, g_d7⟩), (146, ⟨M_d9, R_d9, p_d9, g_d9⟩), (29, ⟨M_db, R_db, p_db, g_db⟩), (91, ⟨M_df, R_df, p_df, g_df⟩)]) (keepOf []) nF
abbrev E_dg := evFn (X_dg g_d7 p_d7 g_d9 p_d9 g_db p_db g_df p_df) Tryz.f79 R_dg M_dg
variable {g_d7 p_d7 g_d9 p_d9 g_db p_db g_df p_df}
theorem ev_dg (k : Nat) (x0 : Dm (.imm S_BatBatch)) : E_dg g_d7 p_d7 g_d9 p_d9 g_db p_db g_df p_df k (x0, ()) =
 (cl (p_d7 (x0.2.2.1, ((), ()))) (g_d7 (x0.2.2.1, ((), ()))) fun y0 => (bif y0.1 then (some (false, ())) else (cl (p_d9 (x0.2.2.2.2.2, (true, ()))) (g_d9 (x0.2.2.2.2.2, (true, ()))) fun y1 => (bif y1.1 then (some (false, ())) else (cl (p_db (x0, ())) (g_db (x0, ())) fun y2 => (cl (p_df (x0.2.2.2.2.1, ((y2.1, (x0, ())), ()))) (g_df (x0.2.2.2.2.1, ((y2.1, (x0, ())), ()))) fun y3 => (some (y3.1, ())))))))) := by kernel_rfl
theorem S_dg (h_d7 : C_d7 p_d7 g_d7) (h_d9 : C_d9 p_d9 g_d9) (h_db : C_db p_db g_db) (h_df : C_df p_df g_df) {pre fn} (hev : Hq (E_dg g_d7 p_d7 g_d9 p_d9 g_db p_db g_df p_df) pre fn) : C_dg pre fn := sound tysOk mixed (fn := Tryz.f79) rfl rfl rfl (.cons h_d7 (.cons h_d9 (.cons h_db (.cons h_df .nil)))) _ hev
end
abbrev M_dh : Lm := [.imm S_BatBatch]
abbrev R_dh : Lr := [(.imm, .bool)]
abbrev In_dh := Iq M_dh
abbrev Out_dh := Oq R_dh M_dh
abbrev C_dh := Cq 34 M_dh R_dh
section
variable (g_iin : In_iin -> Out_iin) (g_cy : In_cy -> Out_cy) (p_cy : In_cy -> Bool) (g_d4 : In_d4 -> Out_d4) (p_d4 : In_d4 -> Bool) (g_dg : In_dg -> Out_dg) (p_dg : In_dg -> Bool)
abbrev X_dh : Ctx := ctx tys 87 (conOf [(65, ⟨M_iin, R_iin, fun _ => true, g_iin⟩), (88, ⟨M_cy, R_cy, p_cy, g_cy⟩), (91, ⟨M_d4, R_d4, p_d4, g_d4⟩), (79, ⟨M_dg, R_dg, p_dg, g_dg⟩)]) (keepOf [(pt0, (⟨[(1, .asis), (30, .asis), (31, .asis), (32, .asis)], [(1, .asis)], []⟩ : Keep))]) nF
abbrev E_dh := evFn (X_dh g_iin g_cy p_cy g_d4 p_d4 g_dg p_dg) Tryz.f34 R_dh M_dh
def h0_dh (x0 : Dm (.imm S_BatBatch)) (h0 : Dn I) (h1 : Dn I) : St := mkS [(1, (AV.ptr 1 none [])), (30, (AV.val L_TstTest x0.2.2.1)), (31, (AV.val I h0)), (32, (AV.val I h1))] [(1, (Ob.box S_BatBatch (AV.val S_BatBatch x0)))]
def r_dh := rounds (X_dh g_iin g_cy p_cy g_d4 p_d4 g_dg p_dg) Tryz.f34 R_dh M_dh
variable {g_iin g_cy p_cy g_d4 p_d4 g_dg p_dg}
theorem ev_dh (k : Nat) (x0 : Dm (.imm S_BatBatch)) : E_dh g_iin g_cy p_cy g_d4 p_d4 g_dg p_dg k (x0, ()) =
 (bif (bif (g_iin (x0.1, ((0 : Int), ((5 : Int), ())))).1 then false else true) then (some (false, ())) else (bif (bif (g_iin (x0.2.1, ((1 : Int), ((10000 : Int), ())))).1 then false else true) then (some (false, ())) else (bif (bif (g_iin ((List.length x0.2.2.1 : Int), ((1 : Int), ((4 : Int), ())))).1 then false else true) then (some (false, ())) else (bif (bif (g_iin (x0.2.2.2.1, ((1 : Int), ((4 : Int), ())))).1 then false else true) then (some (false, ())) else (r_dh g_iin g_cy p_cy g_d4 p_d4 g_dg p_dg (x0, ()) k pt0 (h0_dh x0 (List.length x0.2.2.1 : Int) (0 : Int))))))) := by kernel_rfl
theorem rd0_dh (k : Nat) (x0 : Dm (.imm S_BatBatch)) (h0 : Dn I) (h1 : Dn I) : r_dh g_iin g_cy p_cy g_d4 p_d4 g_dg p_dg (x0, ()) (k + 1) pt0 (h0_dh x0 h0 h1) =
 (lt (rdL (e := S_TstTest) x0.2.2.1 h1) fun s1 => (lt (w64 (h1 - (1 : Int))) fun s0 => (bif (decide (h1 < h0)) then (bif (bif (decide ((0 : Int) <= h1)) then (decide (h1 < (List.length x0.2.2.1 : Int))) else false) then (cl (p_cy (s1, ())) (g_cy (s1, ())) fun y0 => (bif (bif y0.1 then false else true) then (some (false, ())) else (bif (decide ((0 : Int) < h1)) then (bif (bif (decide ((0 : Int) <= s0)) then (decide (s0 < (List.length x0.2.2.1 : Int))) else false) then (bif (decide (s1.1.1 <= (rdL (e := S_TstTest) x0.2.2.1 s0).1.1)) then (some (false, ())) else (r_dh g_iin g_cy p_cy g_d4 p_d4 g_dg p_dg (x0, ()) k pt0 (h0_dh x0 h0 (w64 (h1 + (1 : Int)))))) else none) else (r_dh g_iin g_cy p_cy g_d4 p_d4 g_dg p_dg (x0, ()) k pt0 (h0_dh x0 h0 (w64 (h1 + (1 : Int)))))))) else none) else (bif (decide ((6 : Int) < (List.length x0.2.2.2.2.1 : Int))) then (some (false, ())) else (cl (p_d4 (x0.2.2.2.2.1, ((), ()))) (g_d4 (x0.2.2.2.2.1, ((), ()))) fun y1 => (bif y1.1 then (some (false, ())) else (bif (decide ((3 : Int) < (List.length x0.2.2.2.2.2 : Int))) then (some (false, ())) else (bif (bif (decide (x0.2.2.2.1 = (2 : Int))) then false else true) then (bif (bif (decide (x0.2.2.2.1 = (4 : Int))) then false else true) then (some (true, ())) else (cl (p_dg (x0, ())) (g_dg (x0, ())) fun y2 => (some (y2.1, ())))) else (cl (p_dg (x0, ())) (g_dg (x0, ())) fun y3 => (some (y3.1, ()))))))))))) := by kernel_rfl
theorem S_dh (h_iin : C_iin (fun _ => true) g_iin) (h_cy : C_cy p_cy g_cy) (h_d4 : C_d4 p_d4 g_d4) (h_dg : C_dg p_dg g_dg) {pre fn} (hev : Hq (E_dh g_iin g_cy p_cy g_d4 p_d4 g_dg p_dg) pre fn) : C_dh pre fn := sound tysOk mixed (fn := Tryz.f34) rfl rfl rfl (.cons h_iin (.cons h_cy (.cons h_d4 (.cons h_dg .nil)))) _ hev
end
abbrev M_di : Lm := [.imm L_SpcTest, .imm L_SpcTest]
abbrev R_di : Lr := [(.imm, .bool)]
abbrev In_di := Iq M_di
abbrev Out_di := Oq R_di M_di
abbrev C_di := Cq 167 M_di R_di
abbrev X_di : Ctx := ctx tys 26 (conOf []) (keepOf [(pt0, (⟨[(0, .asis), (1, .asis), (12, .asis), (13, .asis)], [], []⟩ : Keep))]) nF
abbrev E_di := evFn X_di Tryz.f167 R_di M_di
def h0_di (x0 : Dm (.imm L_SpcTest)) (x1 : Dm (.imm L_SpcTest)) (h0 : Dn I) (h1 : Dn I) : St := mkS [(0, (AV.val L_SpcTest x0)), (1, (AV.val L_SpcTest x1)), (12, (AV.val I h0)), (13, (AV.val I h1))] []
def r_di := rounds X_di Tryz.f167 R_di M_di
theorem ev_di (k : Nat) (x0 : Dm (.imm L_SpcTest)) (x1 : Dm (.imm L_SpcTest)) : E_di k (x0, x1, ()) =
 (bif (bif (decide ((List.length x0 : Int) = (List.length x1 : Int))) then false else true) then (some (false, ())) else (r_di  (x0, x1, ()) k pt0 (h0_di x0 x1 (List.length x0 : Int) (0 : Int)))) := by kernel_rfl
theorem rd0_di (k : Nat) (x0 : Dm (.imm L_SpcTest)) (x1 : Dm (.imm L_SpcTest)) (h0 : Dn I) (h1 : Dn I) : r_di  (x0, x1, ()) (k + 1) pt0 (h0_di x0 x1 h0 h1) =
 (bif (decide (h1 < h0)) then (bif (bif (decide ((0 : Int) <= h1)) then (decide (h1 < (List.length x0 : Int))) else false) then (bif (bif (decide ((0 : Int) <= h1)) then (decide (h1 < (List.length x1 : Int))) else false) then (bif (bif (Sh.beq S_SpcTest (rdL (e := S_SpcTest) x0 h1) (rdL (e := S_SpcTest) x1 h1)) then false else true) then (some (false, ())) else (r_di  (x0, x1, ()) k pt0 (h0_di x0 x1 h0 (w64 (h1 + (1 : Int)))))) else none) else none) else (some (true, ()))) := by kernel_rfl
theorem S_di  {pre fn} (hev : Hq E_di pre fn) : C_di pre fn := sound tysOk mixed (fn := Tryz.f167) rfl rfl rfl ConsOk.nil _ hev
abbrev M_dj : Lm := [.imm S_BatSig, .pR S_HouHouse]
abbrev R_dj : Lr := [(.imm, .bool)]
abbrev In_dj := Iq M_dj
abbrev Out_dj := Oq R_dj M_dj
abbrev C_dj := Cq 166 M_dj R_dj
abbrev X_dj : Ctx := ctx tys 22 (conOf []) (keepOf []) nF
abbrev E_dj := evFn X_dj Tryz.f166 R_dj M_dj
theorem ev_dj (k : Nat) (x0 : Dm (.imm S_BatSig)) (x1 : Dm (.pR S_HouHouse)) : E_dj k (x0, x1, ()) =
 (bif (decide ((List.length x1.1 : Int) < x0.1)) then (some (true, ())) else (bif (bif (decide ((0 : Int) <= (w64 (x0.1 - (1 : Int))))) then (decide ((w64 (x0.1 - (1 : Int))) < (List.length x1.1 : Int))) else false) then (some ((bif (decide ((rdL (e := I) x1.1 (w64 (x0.1 - (1 : Int)))) = x0.2.1)) then false else true), ())) else none)) := by kernel_rfl
theorem S_dj  {pre fn} (hev : Hq E_dj pre fn) : C_dj pre fn := sound tysOk mixed (fn := Tryz.f166) rfl rfl rfl ConsOk.nil _ hev
abbrev M_dk : Lm := [.imm L_BatSig, .clo 166 [S_HouHouse]]
abbrev R_dk : Lr := [(.imm, I)]
abbrev In_dk := Iq M_dk
abbrev Out_dk := Oq R_dk M_dk
abbrev C_dk := Cq 158 M_dk R_dk
section
variable (g_dj : In_dj -> Out_dj) (p_dj : In_dj -> Bool)
abbrev X_dk : Ctx := ctx tys 19 (conOf [(166, ⟨M_dj, R_dj, p_dj, g_dj⟩)]) (keepOf [(pt1, (⟨[(0, .asis), (1, .asis), (7, .asis), (8, .asis)], [(1000005000, .asis)], []⟩ : Keep))]) nF
abbrev E_dk := evFn (X_dk g_dj p_dj) Tryz.f158 R_dk M_dk
def h0_dk (x0 : Dm (.imm L_BatSig)) (x1 : Dm (.clo 166 [S_HouHouse])) (h0 : Dn I) (h1 : Dn I) : St := mkS [(0, (AV.val L_BatSig x0)), (1, (AV.fn 166 [1000005000])), (7, (AV.val I h0)), (8, (AV.val I h1))] [(1000005000, (Ob.cbox S_HouHouse x1.1))]
def r_dk := rounds (X_dk g_dj p_dj) Tryz.f158 R_dk M_dk
variable {g_dj p_dj}
theorem ev_dk (k : Nat) (x0 : Dm (.imm L_BatSig)) (x1 : Dm (.clo 166 [S_HouHouse])) : E_dk g_dj p_dj k (x0, x1, ()) =
 (r_dk g_dj p_dj (x0, x1, ()) k pt1 (h0_dk x0 x1 (List.length x0 : Int) (0 : Int))) := by kernel_rfl
theorem rd0_dk (k : Nat) (x0 : Dm (.imm L_BatSig)) (x1 : Dm (.clo 166 [S_HouHouse])) (h0 : Dn I) (h1 : Dn I) : r_dk g_dj p_dj (x0, x1, ()) (k + 1) pt1 (h0_dk x0 x1 h0 h1) =
 (bif (decide (h1 < h0)) then (bif (bif (decide ((0 : Int) <= h1)) then (decide (h1 < (List.length x0 : Int))) else false) then (cl (p_dj ((rdL (e := S_BatSig) x0 h1), (x1.1, ()))) (g_dj ((rdL (e := S_BatSig) x0 h1), (x1.1, ()))) fun y0 => (bif y0.1 then (some (h1, ())) else (r_dk g_dj p_dj (x0, x1, ()) k pt1 (h0_dk x0 x1 h0 (w64 (h1 + (1 : Int))))))) else none) else (some ((-1 : Int), ()))) := by kernel_rfl
theorem S_dk (h_dj : C_dj p_dj g_dj) {pre fn} (hev : Hq (E_dk g_dj p_dj) pre fn) : C_dk pre fn := sound tysOk mixed (fn := Tryz.f158) rfl rfl rfl (.cons h_dj .nil) _ hev
end
abbrev M_dl : Lm := [.imm L_BatSig, .clo 166 [S_HouHouse]]
abbrev R_dl : Lr := [(.imm, .bool)]
abbrev In_dl := Iq M_dl
abbrev Out_dl := Oq R_dl M_dl
abbrev C_dl := Cq 91 M_dl R_dl
section
variable (g_dk : In_dk -> Out_dk) (p_dk : In_dk -> Bool)
abbrev X_dl : Ctx := ctx tys 9 (conOf [(158, ⟨M_dk, R_dk, p_dk, g_dk⟩)]) (keepOf []) nF
abbrev E_dl := evFn (X_dl g_dk p_dk) Tryz.f91 R_dl M_dl
variable {g_dk p_dk}
theorem ev_dl (k : Nat) (x0 : Dm (.imm L_BatSig)) (x1 : Dm (.clo 166 [S_HouHouse])) : E_dl g_dk p_dk k (x0, x1, ()) =
 (cl (p_dk (x0, ((x1.1, ()), ()))) (g_dk (x0, ((x1.1, ()), ()))) fun y0 => (some ((decide ((0 : Int) <= y0.1)), ()))) := by kernel_rfl
theorem S_dl (h_dk : C_dk p_dk g_dk) {pre fn} (hev : Hq (E_dl g_dk p_dk) pre fn) : C_dl pre fn := sound tysOk mixed (fn := Tryz.f91) rfl rfl rfl (.cons h_dk .nil) _ hev
end
abbrev M_dm : Lm := [.imm S_HouHouse, .imm S_BatBatch]
abbrev R_dm : Lr := [(.imm, .bool)]
abbrev In_dm := Iq M_dm
abbrev Out_dm := Oq R_dm M_dm
abbrev C_dm := Cq 107 M_dm R_dm
section
variable (g_dh : In_dh -> Out_dh) (p_dh : In_dh -> Bool) (g_di : In_di -> Out_di) (p_di : In_di -> Bool) (g_dl : In_dl -> Out_dl) (p_dl : In_dl -> Bool)
abbrev X_dm : Ctx := ctx tys 60 (conOf [(34, ⟨M_dh, R_dh, p_dh, g_dh⟩), (167, ⟨M_di, R_di, p_di, g_di⟩), (91, ⟨M_dl, R_dl, p_dl, g_dl⟩)]) (keepOf [(pt2, (⟨[(2, .asis), (3, .asis), (5, .own), (31, .asis), (32, .asis), (33, .asis)], [(2, .asis), (3, .asis)], []⟩ : Keep))]) nF
abbrev E_dm := evFn (X_dm g_dh p_dh g_di p_di g_dl p_dl) Tryz.f107 R_dm M_dm
def h0_dm (x0 : Dm (.imm S_HouHouse)) (x1 : Dm (.imm S_BatBatch)) (h0 : Dn I) (h1 : Dn I) (h2 : (List (Dn S_SpcTest))) : St := mkS [(2, (AV.ptr 2 none [])), (3, (AV.ptr 3 none [])), (5, (AV.sref 2505 none [])), (31, (AV.val L_TstTest x1.2.2.1)), (32, (AV.val I h0)), (33, (AV.val I h1))] [(2, (Ob.box S_HouHouse (AV.val S_HouHouse x0))), (3, (Ob.box S_BatBatch (AV.val S_BatBatch x1))), (2505, (Ob.arr 53 S_SpcTest h2))]
def r_dm := rounds (X_dm g_dh p_dh g_di p_di g_dl p_dl) Tryz.f107 R_dm M_dm
variable {g_dh p_dh g_di p_di g_dl p_dl}
theorem ev_dm (k : Nat) (x0 : Dm (.imm S_HouHouse)) (x1 : Dm (.imm S_BatBatch)) : E_dm g_dh p_dh g_di p_di g_dl p_dl k (x0, x1, ()) =
 (cl (p_dh (x1, ())) (g_dh (x1, ())) fun y0 => (bif (bif y0.1 then false else true) then (some (false, ())) else (bif (decide ((List.length x0.2.1 : Int) <= x1.1)) then (some (false, ())) else (bif (bif (decide ((0 : Int) <= x1.1)) then (decide (x1.1 < (List.length x0.2.1 : Int))) else false) then (bif (decide ((rdL (e := S_SpcSpec) x0.2.1 x1.1).2 = (1 : Int))) then (some (false, ())) else (r_dm g_dh p_dh g_di p_di g_dl p_dl (x0, x1, ()) k pt2 (h0_dm x0 x1 (List.length x1.2.2.1 : Int) (0 : Int) []))) else none)))) := by kernel_rfl
theorem rd0_dm (k : Nat) (x0 : Dm (.imm S_HouHouse)) (x1 : Dm (.imm S_BatBatch)) (h0 : Dn I) (h1 : Dn I) (h2 : (List (Dn S_SpcTest))) : r_dm g_dh p_dh g_di p_di g_dl p_dl (x0, x1, ()) (k + 1) pt2 (h0_dm x0 x1 h0 h1 h2) =
 (bif (decide (h1 < h0)) then (bif (bif (decide ((0 : Int) <= h1)) then (decide (h1 < (List.length x1.2.2.1 : Int))) else false) then (bif (fitL h2 [((rdL (e := S_TstTest) x1.2.2.1 h1).1)]) then (r_dm g_dh p_dh g_di p_di g_dl p_dl (x0, x1, ()) k pt2 (h0_dm x0 x1 h0 (w64 (h1 + (1 : Int))) (List.append h2 [((rdL (e := S_TstTest) x1.2.2.1 h1).1)]))) else none) else none) else (bif (bif (decide ((0 : Int) <= x1.1)) then (decide (x1.1 < (List.length x0.2.1 : Int))) else false) then (cl (p_di (h2, ((rdL (e := S_SpcSpec) x0.2.1 x1.1).1, ()))) (g_di (h2, ((rdL (e := S_SpcSpec) x0.2.1 x1.1).1, ()))) fun y0 => (bif y0.1 then (cl (p_dl (x1.2.2.2.2.1, ((x0, ()), ()))) (g_dl (x1.2.2.2.2.1, ((x0, ()), ()))) fun y1 => (some ((bif y1.1 then false else true), ()))) else (some (false, ())))) else none)) := by kernel_rfl
theorem S_dm (h_dh : C_dh p_dh g_dh) (h_di : C_di p_di g_di) (h_dl : C_dl p_dl g_dl) {pre fn} (hev : Hq (E_dm g_dh p_dh g_di p_di g_dl p_dl) pre fn) : C_dm pre fn := sound tysOk mixed (fn := Tryz.f107) rfl rfl rfl (.cons h_dh (.cons h_di (.cons h_dl .nil))) _ hev
end
abbrev M_dn : Lm := [.imm S_BatBatch, .pR S_HouHouse]
abbrev R_dn : Lr := [(.imm, .bool)]
abbrev In_dn := Iq M_dn
abbrev Out_dn := Oq R_dn M_dn
abbrev C_dn := Cq 106 M_dn R_dn
section
variable (g_dm : In_dm -> Out_dm) (p_dm : In_dm -> Bool)
abbrev X_dn : Ctx := ctx tys 8 (conOf [(107, ⟨M_dm, R_dm, p_dm, g_dm⟩)]) (keepOf []) nF
abbrev E_dn := evFn (X_dn g_dm p_dm) Tryz.f106 R_dn M_dn
variable {g_dm p_dm}
theorem ev_dn (k : Nat) (x0 : Dm (.imm S_BatBatch)) (x1 : Dm (.pR S_HouHouse)) : E_dn g_dm p_dm k (x0, x1, ()) =
 (cl (p_dm (x1, (x0, ()))) (g_dm (x1, (x0, ()))) fun y0 => (some ((bif y0.1 then false else true), ()))) := by kernel_rfl
theorem S_dn (h_dm : C_dm p_dm g_dm) {pre fn} (hev : Hq (E_dn g_dm p_dm) pre fn) : C_dn pre fn := sound tysOk mixed (fn := Tryz.f106) rfl rfl rfl (.cons h_dm .nil) _ hev
end
abbrev M_do : Lm := [.imm L_BatBatch, .clo 106 [S_HouHouse]]
abbrev R_do : Lr := [(.imm, I)]
abbrev In_do := Iq M_do
abbrev Out_do := Oq R_do M_do
abbrev C_do := Cq 170 M_do R_do
section
variable (g_dn : In_dn -> Out_dn) (p_dn : In_dn -> Bool)
abbrev X_do : Ctx := ctx tys 19 (conOf [(106, ⟨M_dn, R_dn, p_dn, g_dn⟩)]) (keepOf [(pt1, (⟨[(0, .asis), (1, .asis), (7, .asis), (8, .asis)], [(1000005000, .asis)], []⟩ : Keep))]) nF
abbrev E_do := evFn (X_do g_dn p_dn) Tryz.f170 R_do M_do
def h0_do (x0 : Dm (.imm L_BatBatch)) (x1 : Dm (.clo 106 [S_HouHouse])) (h0 : Dn I) (h1 : Dn I) : St := mkS [(0, (AV.val L_BatBatch x0)), (1, (AV.fn 106 [1000005000])), (7, (AV.val I h0)), (8, (AV.val I h1))] [(1000005000, (Ob.cbox S_HouHouse x1.1))]
def r_do := rounds (X_do g_dn p_dn) Tryz.f170 R_do M_do
variable {g_dn p_dn}
theorem ev_do (k : Nat) (x0 : Dm (.imm L_BatBatch)) (x1 : Dm (.clo 106 [S_HouHouse])) : E_do g_dn p_dn k (x0, x1, ()) =
 (r_do g_dn p_dn (x0, x1, ()) k pt1 (h0_do x0 x1 (List.length x0 : Int) (0 : Int))) := by kernel_rfl
theorem rd0_do (k : Nat) (x0 : Dm (.imm L_BatBatch)) (x1 : Dm (.clo 106 [S_HouHouse])) (h0 : Dn I) (h1 : Dn I) : r_do g_dn p_dn (x0, x1, ()) (k + 1) pt1 (h0_do x0 x1 h0 h1) =
 (bif (decide (h1 < h0)) then (bif (bif (decide ((0 : Int) <= h1)) then (decide (h1 < (List.length x0 : Int))) else false) then (cl (p_dn ((rdL (e := S_BatBatch) x0 h1), (x1.1, ()))) (g_dn ((rdL (e := S_BatBatch) x0 h1), (x1.1, ()))) fun y0 => (bif y0.1 then (some (h1, ())) else (r_do g_dn p_dn (x0, x1, ()) k pt1 (h0_do x0 x1 h0 (w64 (h1 + (1 : Int))))))) else none) else (some ((-1 : Int), ()))) := by kernel_rfl
theorem S_do (h_dn : C_dn p_dn g_dn) {pre fn} (hev : Hq (E_do g_dn p_dn) pre fn) : C_do pre fn := sound tysOk mixed (fn := Tryz.f170) rfl rfl rfl (.cons h_dn .nil) _ hev
end
abbrev M_dp : Lm := [.imm L_BatBatch, .clo 106 [S_HouHouse]]
abbrev R_dp : Lr := [(.imm, .bool)]
abbrev In_dp := Iq M_dp
abbrev Out_dp := Oq R_dp M_dp
abbrev C_dp := Cq 110 M_dp R_dp
section
variable (g_do : In_do -> Out_do) (p_do : In_do -> Bool)
abbrev X_dp : Ctx := ctx tys 9 (conOf [(170, ⟨M_do, R_do, p_do, g_do⟩)]) (keepOf []) nF
abbrev E_dp := evFn (X_dp g_do p_do) Tryz.f110 R_dp M_dp
variable {g_do p_do}
theorem ev_dp (k : Nat) (x0 : Dm (.imm L_BatBatch)) (x1 : Dm (.clo 106 [S_HouHouse])) : E_dp g_do p_do k (x0, x1, ()) =
 (cl (p_do (x0, ((x1.1, ()), ()))) (g_do (x0, ((x1.1, ()), ()))) fun y0 => (some ((decide ((0 : Int) <= y0.1)), ()))) := by kernel_rfl
theorem S_dp (h_do : C_do p_do g_do) {pre fn} (hev : Hq (E_dp g_do p_do) pre fn) : C_dp pre fn := sound tysOk mixed (fn := Tryz.f110) rfl rfl rfl (.cons h_do .nil) _ hev
end
abbrev M_dq : Lm := [.imm S_HouHouse]
abbrev R_dq : Lr := [(.imm, .bool)]
abbrev In_dq := Iq M_dq
abbrev Out_dq := Oq R_dq M_dq
abbrev C_dq := Cq 50 M_dq R_dq
section
variable (g_ca : In_ca -> Out_ca) (p_ca : In_ca -> Bool) (g_cl : In_cl -> Out_cl) (p_cl : In_cl -> Bool) (g_dp : In_dp -> Out_dp) (p_dp : In_dp -> Bool)
abbrev X_dq : Ctx := ctx tys 26 (conOf [(108, ⟨M_ca, R_ca, p_ca, g_ca⟩), (109, ⟨M_cl, R_cl, p_cl, g_cl⟩), (110, ⟨M_dp, R_dp, p_dp, g_dp⟩)]) (keepOf []) nF
abbrev E_dq := evFn (X_dq g_ca p_ca g_cl p_cl g_dp p_dp) Tryz.f50 R_dq M_dq
variable {g_ca p_ca g_cl p_cl g_dp p_dp}
theorem ev_dq (k : Nat) (x0 : Dm (.imm S_HouHouse)) : E_dq g_ca p_ca g_cl p_cl g_dp p_dp k (x0, ()) =
 (cl (p_ca (x0.1, ())) (g_ca (x0.1, ())) fun y0 => (bif y0.1 then (cl (p_cl (x0.2.1, ())) (g_cl (x0.2.1, ())) fun y1 => (bif y1.1 then (bif (decide ((List.length x0.2.2 : Int) <= (4 : Int))) then (cl (p_dp (x0.2.2, ((x0, ()), ()))) (g_dp (x0.2.2, ((x0, ()), ()))) fun y2 => (some ((bif y2.1 then false else true), ()))) else (some (false, ()))) else (some (false, ())))) else (some (false, ())))) := by kernel_rfl
theorem S_dq (h_ca : C_ca p_ca g_ca) (h_cl : C_cl p_cl g_cl) (h_dp : C_dp p_dp g_dp) {pre fn} (hev : Hq (E_dq g_ca p_ca g_cl p_cl g_dp p_dp) pre fn) : C_dq pre fn := sound tysOk mixed (fn := Tryz.f50) rfl rfl rfl (.cons h_ca (.cons h_cl (.cons h_dp .nil))) _ hev
end
abbrev M_dr : Lm := [.imm L_int, .imm S_BatBatch]
abbrev R_dr : Lr := [(.imm, .bool)]
abbrev In_dr := Iq M_dr
abbrev Out_dr := Oq R_dr M_dr
abbrev C_dr := Cq 112 M_dr R_dr
abbrev X_dr : Ctx := ctx tys 41 (conOf []) (keepOf [(pt1, (⟨[(0, .asis), (3, .asis), (5, .asis)], [(3, .asis)], []⟩ : Keep))]) nF
abbrev E_dr := evFn X_dr Tryz.f112 R_dr M_dr
def h0_dr (x0 : Dm (.imm L_int)) (x1 : Dm (.imm S_BatBatch)) (h0 : Dn I) : St := mkS [(0, (AV.val L_int x0)), (3, (AV.ptr 3 none [])), (5, (AV.val I h0))] [(3, (Ob.box S_BatBatch (AV.val S_BatBatch x1)))]
def r_dr := rounds X_dr Tryz.f112 R_dr M_dr
theorem ev_dr (k : Nat) (x0 : Dm (.imm L_int)) (x1 : Dm (.imm S_BatBatch)) : E_dr k (x0, x1, ()) =
 (r_dr  (x0, x1, ()) k pt1 (h0_dr x0 x1 (0 : Int))) := by kernel_rfl
theorem rd0_dr (k : Nat) (x0 : Dm (.imm L_int)) (x1 : Dm (.imm S_BatBatch)) (h0 : Dn I) : r_dr  (x0, x1, ()) (k + 1) pt1 (h0_dr x0 x1 h0) =
 (bif (decide (h0 < (List.length x1.2.2.2.2.1 : Int))) then (bif (bif (decide ((0 : Int) <= h0)) then (decide (h0 < (List.length x1.2.2.2.2.1 : Int))) else false) then (bif (decide ((List.length x0 : Int) < (rdL (e := S_BatSig) x1.2.2.2.2.1 h0).1)) then (some (false, ())) else (bif (bif (decide ((0 : Int) <= h0)) then (decide (h0 < (List.length x1.2.2.2.2.1 : Int))) else false) then (bif (bif (decide ((0 : Int) <= (w64 ((rdL (e := S_BatSig) x1.2.2.2.2.1 h0).1 - (1 : Int))))) then (decide ((w64 ((rdL (e := S_BatSig) x1.2.2.2.2.1 h0).1 - (1 : Int))) < (List.length x0 : Int))) else false) then (bif (bif (decide ((0 : Int) <= h0)) then (decide (h0 < (List.length x1.2.2.2.2.1 : Int))) else false) then (bif (bif (decide ((rdL (e := I) x0 (w64 ((rdL (e := S_BatSig) x1.2.2.2.2.1 h0).1 - (1 : Int)))) = (rdL (e := S_BatSig) x1.2.2.2.2.1 h0).2.1)) then false else true) then (some (false, ())) else (r_dr  (x0, x1, ()) k pt1 (h0_dr x0 x1 (w64 (h0 + (1 : Int)))))) else none) else none) else none)) else none) else (some (true, ()))) := by kernel_rfl
theorem S_dr  {pre fn} (hev : Hq E_dr pre fn) : C_dr pre fn := sound tysOk mixed (fn := Tryz.f112) rfl rfl rfl ConsOk.nil _ hev
abbrev M_ds : Lm := [.imm S_SpcSpec, .imm S_BatBatch]
abbrev R_ds : Lr := [(.imm, .bool)]
abbrev In_ds := Iq M_ds
abbrev Out_ds := Oq R_ds M_ds
abbrev C_ds := Cq 113 M_ds R_ds
abbrev X_ds : Ctx := ctx tys 37 (conOf []) (keepOf [(pt0, (⟨[(2, .asis), (3, .asis), (5, .asis)], [(2, .asis), (3, .asis)], []⟩ : Keep))]) nF
abbrev E_ds := evFn X_ds Tryz.f113 R_ds M_ds
def h0_ds (x0 : Dm (.imm S_SpcSpec)) (x1 : Dm (.imm S_BatBatch)) (h0 : Dn I) : St := mkS [(2, (AV.ptr 2 none [])), (3, (AV.ptr 3 none [])), (5, (AV.val I h0))] [(2, (Ob.box S_SpcSpec (AV.val S_SpcSpec x0))), (3, (Ob.box S_BatBatch (AV.val S_BatBatch x1)))]
def r_ds := rounds X_ds Tryz.f113 R_ds M_ds
theorem ev_ds (k : Nat) (x0 : Dm (.imm S_SpcSpec)) (x1 : Dm (.imm S_BatBatch)) : E_ds k (x0, x1, ()) =
 (bif (bif (decide ((List.length x0.1 : Int) = (List.length x1.2.2.1 : Int))) then false else true) then (some (false, ())) else (bif (decide (x0.2 = (1 : Int))) then (some (false, ())) else (r_ds  (x0, x1, ()) k pt0 (h0_ds x0 x1 (0 : Int))))) := by kernel_rfl
theorem rd0_ds (k : Nat) (x0 : Dm (.imm S_SpcSpec)) (x1 : Dm (.imm S_BatBatch)) (h0 : Dn I) : r_ds  (x0, x1, ()) (k + 1) pt0 (h0_ds x0 x1 h0) =
 (bif (decide (h0 < (List.length x0.1 : Int))) then (bif (bif (decide ((0 : Int) <= h0)) then (decide (h0 < (List.length x0.1 : Int))) else false) then (bif (bif (decide ((0 : Int) <= h0)) then (decide (h0 < (List.length x1.2.2.1 : Int))) else false) then (bif (bif (Sh.beq S_SpcTest (rdL (e := S_SpcTest) x0.1 h0) (rdL (e := S_TstTest) x1.2.2.1 h0).1) then false else true) then (some (false, ())) else (r_ds  (x0, x1, ()) k pt0 (h0_ds x0 x1 (w64 (h0 + (1 : Int)))))) else none) else none) else (some (true, ()))) := by kernel_rfl
theorem S_ds  {pre fn} (hev : Hq E_ds pre fn) : C_ds pre fn := sound tysOk mixed (fn := Tryz.f113) rfl rfl rfl ConsOk.nil _ hev
abbrev M_dt : Lm := [.imm S_HouHouse]
abbrev R_dt : Lr := [(.imm, .bool)]
abbrev In_dt := Iq M_dt
abbrev Out_dt := Oq R_dt M_dt
abbrev C_dt := Cq 51 M_dt R_dt
section
variable (g_a3 : In_a3 -> Out_a3) (g_aw : In_aw -> Out_aw) (g_bb : In_bb -> Out_bb) (p_bb : In_bb -> Bool) (g_dr : In_dr -> Out_dr) (p_dr : In_dr -> Bool) (g_ds : In_ds -> Out_ds) (p_ds : In_ds -> Bool)
abbrev X_dt : Ctx := ctx tys 78 (conOf [(66, ⟨M_a3, R_a3, fun _ => true, g_a3⟩), (111, ⟨M_aw, R_aw, fun _ => true, g_aw⟩), (28, ⟨M_bb, R_bb, p_bb, g_bb⟩), (112, ⟨M_dr, R_dr, p_dr, g_dr⟩), (113, ⟨M_ds, R_ds, p_ds, g_ds⟩)]) (keepOf [(pt2, (⟨[(1, .asis), (4, .asis)], [(1, .asis)], []⟩ : Keep)), (pt0, (⟨[(1, .asis), (3, .asis)], [(1, .asis)], []⟩ : Keep))]) nF
abbrev E_dt := evFn (X_dt g_a3 g_aw g_bb p_bb g_dr p_dr g_ds p_ds) Tryz.f51 R_dt M_dt
def h0_dt (x0 : Dm (.imm S_HouHouse)) (h0 : Dn I) : St := mkS [(1, (AV.ptr 1 none [])), (3, (AV.val I h0))] [(1, (Ob.box S_HouHouse (AV.val S_HouHouse x0)))]
def h1_dt (x0 : Dm (.imm S_HouHouse)) (h0 : Dn I) : St := mkS [(1, (AV.ptr 1 none [])), (4, (AV.val I h0))] [(1, (Ob.box S_HouHouse (AV.val S_HouHouse x0)))]
def r_dt := rounds (X_dt g_a3 g_aw g_bb p_bb g_dr p_dr g_ds p_ds) Tryz.f51 R_dt M_dt
variable {g_a3 g_aw g_bb p_bb g_dr p_dr g_ds p_ds}
theorem ev_dt (k : Nat) (x0 : Dm (.imm S_HouHouse)) : E_dt g_a3 g_aw g_bb p_bb g_dr p_dr g_ds p_ds k (x0, ()) =
 (bif (bif (g_a3 ((List.length x0.1 : Int), ((1 : Int), ((5 : Int), ())))).1 then false else true) then (some (false, ())) else (bif (bif (g_aw (x0.2.1, ())).1 then false else true) then (some (false, ())) else (bif (decide ((4 : Int) < (List.length x0.2.2 : Int))) then (some (false, ())) else (r_dt g_a3 g_aw g_bb p_bb g_dr p_dr g_ds p_ds (x0, ()) k pt0 (h0_dt x0 (0 : Int)))))) := by kernel_rfl
theorem rd0_dt (k : Nat) (x0 : Dm (.imm S_HouHouse)) (h0 : Dn I) : r_dt g_a3 g_aw g_bb p_bb g_dr p_dr g_ds p_ds (x0, ()) (k + 1) pt0 (h0_dt x0 h0) =
 (bif (decide (h0 < (List.length x0.1 : Int))) then (bif (bif (decide ((0 : Int) <= h0)) then (decide (h0 < (List.length x0.1 : Int))) else false) then (bif (bif (g_a3 ((rdL (e := I) x0.1 h0), ((1 : Int), ((4 : Int), ())))).1 then false else true) then (some (false, ())) else (r_dt g_a3 g_aw g_bb p_bb g_dr p_dr g_ds p_ds (x0, ()) k pt0 (h0_dt x0 (w64 (h0 + (1 : Int)))))) else none) else (r_dt g_a3 g_aw g_bb p_bb g_dr p_dr g_ds p_ds (x0, ()) k pt2 (h1_dt x0 (0 : Int)))) := by kernel_rfl
theorem rd1_dt (k : Nat) (x0 : Dm (.imm S_HouHouse)) (h0 : Dn I) : r_dt g_a3 g_aw g_bb p_bb g_dr p_dr g_ds p_ds (x0, ()) (k + 1) pt2 (h1_dt x0 h0) =
 (lt (rdL (e := S_BatBatch) x0.2.2 h0) fun s0 => (bif (decide (h0 < (List.length x0.2.2 : Int))) then (bif (bif (decide ((0 : Int) <= h0)) then (decide (h0 < (List.length x0.2.2 : Int))) else false) then (cl (p_bb (s0, ())) (g_bb (s0, ())) fun y0 => (bif (bif y0.1 then false else true) then (some (false, ())) else (bif (decide ((List.length x0.2.1 : Int) <= s0.1)) then (some (false, ())) else (cl (p_dr (x0.1, (s0, ()))) (g_dr (x0.1, (s0, ()))) fun y1 => (bif (bif y1.1 then false else true) then (some (false, ())) else (bif (bif (decide ((0 : Int) <= s0.1)) then (decide (s0.1 < (List.length x0.2.1 : Int))) else false) then (cl (p_ds ((rdL (e := S_SpcSpec) x0.2.1 s0.1), (s0, ()))) (g_ds ((rdL (e := S_SpcSpec) x0.2.1 s0.1), (s0, ()))) fun y2 => (bif (bif y2.1 then false else true) then (some (false, ())) else (r_dt g_a3 g_aw g_bb p_bb g_dr p_dr g_ds p_ds (x0, ()) k pt2 (h1_dt x0 (w64 (h0 + (1 : Int))))))) else none)))))) else none) else (some (true, ())))) := by kernel_rfl
theorem S_dt (h_a3 : C_a3 (fun _ => true) g_a3) (h_aw : C_aw (fun _ => true) g_aw) (h_bb : C_bb p_bb g_bb) (h_dr : C_dr p_dr g_dr) (h_ds : C_ds p_ds g_ds) {pre fn} (hev : Hq (E_dt g_a3 g_aw g_bb p_bb g_dr p_dr g_ds p_ds) pre fn) : C_dt pre fn := sound tysOk mixed (fn := Tryz.f51) rfl rfl rfl (.cons h_a3 (.cons h_aw (.cons h_bb (.cons h_dr (.cons h_ds .nil))))) _ hev
end
abbrev M_du : Lm := [.pI S_sl20Rd, .imm S_HouHouse, .imm I]
abbrev R_du : Lr := [(.imm, S_ReqReq)]
abbrev In_du := Iq M_du
abbrev Out_du := Oq R_du M_du
abbrev C_du := Cq 57 M_du R_du
section
variable (g_ao : In_ao -> Out_ao) (p_ao : In_ao -> Bool) (g_a1 : In_a1 -> Out_a1) (p_a1 : In_a1 -> Bool) (g_a6 : In_a6 -> Out_a6) (p_a6 : In_a6 -> Bool) (g_a8 : In_a8 -> Out_a8) (p_a8 : In_a8 -> Bool)
abbrev X_du : Ctx := ctx tys 67 (conOf [(119, ⟨M_ao, R_ao, p_ao, g_ao⟩), (58, ⟨M_a1, R_a1, p_a1, g_a1⟩), (93, ⟨M_a6, R_a6, p_a6, g_a6⟩), (121, ⟨M_a8, R_a8, p_a8, g_a8⟩)]) (keepOf []) nF
abbrev E_du := evFn (X_du g_ao p_ao g_a1 p_a1 g_a6 p_a6 g_a8 p_a8) Tryz.f57 R_du M_du
variable {g_ao p_ao g_a1 p_a1 g_a6 p_a6 g_a8 p_a8}
theorem ev_du (k : Nat) (x0 : Dm (.pI S_sl20Rd)) (x1 : Dm (.imm S_HouHouse)) (x2 : Dm (.imm I)) : E_du g_ao p_ao g_a1 p_a1 g_a6 p_a6 g_a8 p_a8 k (x0, x1, x2, ()) =
 (cl (p_ao (x0, (x1, ()))) (g_ao (x0, (x1, ()))) fun y0 => (cl (p_a1 (y0.2.1, (x2, ()))) (g_a1 (y0.2.1, (x2, ()))) fun y1 => (bif (decide ((0 : Int) < y1.1)) then (some (y0.1, (y1.2.1, ()))) else (cl (p_a1 (y1.2.1, ((7 : Int), ()))) (g_a1 (y1.2.1, ((7 : Int), ()))) fun y2 => (lt (g_a1 (y2.2.1, ((3 : Int), ()))) fun s0 => (bif (decide (y2.1 = (0 : Int))) then (cl (p_a1 (y2.2.1, ((4 : Int), ()))) (g_a1 (y2.2.1, ((4 : Int), ()))) fun y3 => (bif (bif (decide ((0 : Int) <= y3.1)) then (decide (y3.1 < (List.length [(0 : Int), (6 : Int), (-1 : Int), (5 : Int)] : Int))) else false) then (some (((rdL (e := I) [(0 : Int), (6 : Int), (-1 : Int), (5 : Int)] y3.1), y0.1.2), (y3.2.1, ()))) else none)) else (bif (decide (y2.1 = (1 : Int))) then (cl (p_a1 (y2.2.1, ((4 : Int), ()))) (g_a1 (y2.2.1, ((4 : Int), ()))) fun y4 => (bif (bif (decide ((0 : Int) <= y4.1)) then (decide (y4.1 < (List.length [(0 : Int), (13 : Int), (-1 : Int), (1 : Int)] : Int))) else false) then (some ((y0.1.1, ((rdL (e := I) [(0 : Int), (13 : Int), (-1 : Int), (1 : Int)] y4.1), y0.1.2.2)), (y4.2.1, ()))) else none)) else (bif (decide (y2.1 = (2 : Int))) then (cl (p_a1 (y2.2.1, ((3 : Int), ()))) s0 fun y5 => (bif (bif (decide ((0 : Int) <= y5.1)) then (decide (y5.1 < (List.length [(-1 : Int), (10 : Int), (9 : Int)] : Int))) else false) then (some ((y0.1.1, (y0.1.2.1, ((rdL (e := I) [(-1 : Int), (10 : Int), (9 : Int)] y5.1), y0.1.2.2.2))), (y5.2.1, ()))) else none)) else (bif (decide (y2.1 = (3 : Int))) then (cl (p_a1 (y2.2.1, ((3 : Int), ()))) s0 fun y6 => (bif (bif (decide ((0 : Int) <= y6.1)) then (decide (y6.1 < (List.length [(0 : Int), (5 : Int), (4 : Int)] : Int))) else false) then (some ((y0.1.1, (y0.1.2.1, (y0.1.2.2.1, ((rdL (e := I) [(0 : Int), (5 : Int), (4 : Int)] y6.1), y0.1.2.2.2.2)))), (y6.2.1, ()))) else none)) else (bif (decide (y2.1 = (4 : Int))) then (cl (p_a1 (y2.2.1, ((3 : Int), ()))) s0 fun y7 => (bif (bif (decide ((0 : Int) <= y7.1)) then (decide (y7.1 < (List.length [(-1 : Int), (10001 : Int), (7 : Int)] : Int))) else false) then (some ((y0.1.1, (y0.1.2.1, (y0.1.2.2.1, (y0.1.2.2.2.1, ((rdL (e := I) [(-1 : Int), (10001 : Int), (7 : Int)] y7.1), y0.1.2.2.2.2.2))))), (y7.2.1, ()))) else none)) else (bif (decide (y2.1 = (5 : Int))) then (cl (p_a6 (y2.2.1, ((2 : Int), ()))) (g_a6 (y2.2.1, ((2 : Int), ()))) fun y8 => (some ((y0.1.1, (y0.1.2.1, (y0.1.2.2.1, (y0.1.2.2.2.1, (y0.1.2.2.2.2.1, (y8.1, y0.1.2.2.2.2.2.2)))))), (y8.2.1, ())))) else (cl (p_a8 (y2.2.1, ((2 : Int), ()))) (g_a8 (y2.2.1, ((2 : Int), ()))) fun y9 => (some ((y0.1.1, (y0.1.2.1, (y0.1.2.2.1, (y0.1.2.2.2.1, (y0.1.2.2.2.2.1, (y0.1.2.2.2.2.2.1, y9.1)))))), (y9.2.1, ()))))))))))))))) := by kernel_rfl
theorem S_du (h_ao : C_ao p_ao g_ao) (h_a1 : C_a1 p_a1 g_a1) (h_a6 : C_a6 p_a6 g_a6) (h_a8 : C_a8 p_a8 g_a8) {pre fn} (hev : Hq (E_du g_ao p_ao g_a1 p_a1 g_a6 p_a6 g_a8 p_a8) pre fn) : C_du pre fn := sound tysOk mixed (fn := Tryz.f57) rfl rfl rfl (.cons h_ao (.cons h_a1 (.cons h_a6 (.cons h_a8 .nil)))) _ hev
end
abbrev M_dv : Lm := [.imm L_u8]
abbrev R_dv : Lr := [(.imm, S_HouHouse), (.imm, S_ReqReq)]
abbrev In_dv := Iq M_dv
abbrev Out_dv := Oq R_dv M_dv
abbrev C_dv := Cq 15 M_dv R_dv
section
variable (g_a0 : In_a0 -> Out_a0) (p_a0 : In_a0 -> Bool) (g_bx : In_bx -> Out_bx) (p_bx : In_bx -> Bool) (g_du : In_du -> Out_du) (p_du : In_du -> Bool) (g_a1 : In_a1 -> Out_a1) (p_a1 : In_a1 -> Bool) (g_c1 : In_c1 -> Out_c1) (p_c1 : In_c1 -> Bool)
abbrev X_dv : Ctx := ctx tys 26 (conOf [(55, ⟨M_a0, R_a0, p_a0, g_a0⟩), (56, ⟨M_bx, R_bx, p_bx, g_bx⟩), (57, ⟨M_du, R_du, p_du, g_du⟩), (58, ⟨M_a1, R_a1, p_a1, g_a1⟩), (59, ⟨M_c1, R_c1, p_c1, g_c1⟩)]) (keepOf []) nF
abbrev E_dv := evFn (X_dv g_a0 p_a0 g_bx p_bx g_du p_du g_a1 p_a1 g_c1 p_c1) Tryz.f15 R_dv M_dv
variable {g_a0 p_a0 g_bx p_bx g_du p_du g_a1 p_a1 g_c1 p_c1}
theorem ev_dv (k : Nat) (x0 : Dm (.imm L_u8)) : E_dv g_a0 p_a0 g_bx p_bx g_du p_du g_a1 p_a1 g_c1 p_c1 k (x0, ()) =
 (cl (p_a0 (x0, ())) (g_a0 (x0, ())) fun y0 => (cl (p_bx (y0.1, ())) (g_bx (y0.1, ())) fun y1 => (cl (p_du (y1.2.2.1, (y1.1, ((12 : Int), ())))) (g_du (y1.2.2.1, (y1.1, ((12 : Int), ())))) fun y2 => (cl (p_a1 (y2.2.1, ((20 : Int), ()))) (g_a1 (y2.2.1, ((20 : Int), ()))) fun y3 => (bif (decide (y3.1 = (0 : Int))) then (cl (p_c1 (y3.2.1, (y1.1, ()))) (g_c1 (y3.2.1, (y1.1, ()))) fun y4 => (some (y4.1, (y2.1, ())))) else (some (y1.1, (y2.1, ())))))))) := by kernel_rfl
theorem S_dv (h_a0 : C_a0 p_a0 g_a0) (h_bx : C_bx p_bx g_bx) (h_du : C_du p_du g_du) (h_a1 : C_a1 p_a1 g_a1) (h_c1 : C_c1 p_c1 g_c1) {pre fn} (hev : Hq (E_dv g_a0 p_a0 g_bx p_bx g_du p_du g_a1 p_a1 g_c1 p_c1) pre fn) : C_dv pre fn := sound tysOk mixed (fn := Tryz.f15) rfl rfl rfl (.cons h_a0 (.cons h_bx (.cons h_du (.cons h_a1 (.cons h_c1 .nil))))) _ hev
end
abbrev M_dw : Lm := []
abbrev R_dw : Lr := [(.imm, L_manner)]
abbrev In_dw := Iq M_dw
abbrev Out_dw := Oq R_dw M_dw
abbrev C_dw := Cq 140 M_dw R_dw
abbrev X_dw : Ctx := ctx tys 35 (conOf []) (keepOf []) (fzOf [(5, [1, 2, 3, 4])])
abbrev E_dw := evFn X_dw Tryz.f140 R_dw M_dw
theorem ev_dw (k : Nat)  : E_dw k (()) =
 (some ([((ByteArray.mk (Array.mk [])), ([], (ByteArray.mk (Array.mk [])))), ((ByteArray.mk (Array.mk [(100 : UInt8), (114 : UInt8), (97 : UInt8), (102 : UInt8), (116 : UInt8)])), ([(4 : Int)], (ByteArray.mk (Array.mk [])))), ((ByteArray.mk (Array.mk [(114 : UInt8), (97 : UInt8), (105 : UInt8), (115 : UInt8), (101 : UInt8)])), ([(4 : Int)], (ByteArray.mk (Array.mk [(78 : UInt8)])))), ((ByteArray.mk (Array.mk [(116 : UInt8), (97 : UInt8), (107 : UInt8), (101 : UInt8)])), ([(1 : Int), (2 : Int)], (ByteArray.mk (Array.mk [(78 : UInt8)])))), ((ByteArray.mk (Array.mk [(112 : UInt8), (117 : UInt8), (116 : UInt8)])), ([(1 : Int), (2 : Int)], (ByteArray.mk (Array.mk [(66 : UInt8), (84 : UInt8), (86 : UInt8)])))), ((ByteArray.mk (Array.mk [(99 : UInt8), (97 : UInt8), (117 : UInt8), (115 : UInt8), (101 : UInt8)])), ([(2 : Int), (3 : Int)], (ByteArray.mk (Array.mk [(66 : UInt8), (84 : UInt8), (78 : UInt8)])))), ((ByteArray.mk (Array.mk [(109 : UInt8), (111 : UInt8), (114 : UInt8), (101 : UInt8)])), ([(1 : Int), (2 : Int)], (ByteArray.mk (Array.mk [(66 : UInt8), (84 : UInt8), (86 : UInt8)])))), ((ByteArray.mk (Array.mk [(111 : UInt8), (112 : UInt8), (101 : UInt8), (110 : UInt8)])), ([(1 : Int), (2 : Int)], (ByteArray.mk (Array.mk [(66 : UInt8)])))), ((ByteArray.mk (Array.mk [(99 : UInt8), (108 : UInt8), (111 : UInt8), (115 : UInt8), (101 : UInt8)])), ([(2 : Int), (3 : Int)], (ByteArray.mk (Array.mk [(66 : UInt8), (78 : UInt8)])))), ((ByteArray.mk (Array.mk [(115 : UInt8), (105 : UInt8), (103 : UInt8), (110 : UInt8)])), ([(2 : Int), (3 : Int)], (ByteArray.mk (Array.mk [(66 : UInt8)])))), ((ByteArray.mk (Array.mk [(102 : UInt8), (114 : UInt8), (101 : UInt8), (101 : UInt8)])), ([(3 : Int)], (ByteArray.mk (Array.mk [(66 : UInt8)])))), ((ByteArray.mk (Array.mk [(114 : UInt8), (101 : UInt8), (102 : UInt8), (117 : UInt8), (115 : UInt8), (101 : UInt8)])), ([(3 : Int)], (ByteArray.mk (Array.mk [(66 : UInt8)])))), ((ByteArray.mk (Array.mk [(114 : UInt8), (101 : UInt8), (99 : UInt8), (97 : UInt8), (108 : UInt8), (108 : UInt8)])), ([(3 : Int)], (ByteArray.mk (Array.mk [(66 : UInt8)]))))], ())) := by kernel_rfl
theorem S_dw  {pre fn} (hev : Hq E_dw pre fn) : C_dw pre fn := sound tysOk mixed (fn := Tryz.f140) rfl rfl rfl ConsOk.nil _ hev
abbrev M_dx : Lm := [.imm I]
abbrev R_dx : Lr := [(.imm, S_manner)]
abbrev In_dx := Iq M_dx
abbrev Out_dx := Oq R_dx M_dx
abbrev C_dx := Cq 71 M_dx R_dx
section
variable (g_iin : In_iin -> Out_iin) (g_dw : In_dw -> Out_dw)
abbrev X_dx : Ctx := ctx tys 11 (conOf [(65, ⟨M_iin, R_iin, fun _ => true, g_iin⟩), (140, ⟨M_dw, R_dw, fun _ => true, g_dw⟩)]) (keepOf []) nF
abbrev E_dx := evFn (X_dx g_iin g_dw) Tryz.f71 R_dx M_dx
variable {g_iin g_dw}
theorem ev_dx (k : Nat) (x0 : Dm (.imm I)) : E_dx g_iin g_dw k (x0, ()) =
 (bif (bif (g_iin (x0, ((1 : Int), ((12 : Int), ())))).1 then false else true) then (some (((ByteArray.mk (Array.mk [])), ([], (ByteArray.mk (Array.mk [])))), ())) else (bif (bif (decide ((0 : Int) <= x0)) then (decide (x0 < (List.length (g_dw ()).1 : Int))) else false) then (some ((rdL (e := S_manner) (g_dw ()).1 x0), ())) else none)) := by kernel_rfl
theorem S_dx (h_iin : C_iin (fun _ => true) g_iin) (h_dw : C_dw (fun _ => true) g_dw) {pre fn} (hev : Hq (E_dx g_iin g_dw) pre fn) : C_dx pre fn := sound tysOk mixed (fn := Tryz.f71) rfl rfl rfl (.cons h_iin (.cons h_dw .nil)) _ hev
end
abbrev M_dy : Lm := [.imm .str, .imm U8]
abbrev R_dy : Lr := [(.imm, I)]
abbrev In_dy := Iq M_dy
abbrev Out_dy := Oq R_dy M_dy
abbrev C_dy := Cq 218 M_dy R_dy
theorem s_dy : C_dy (fun _ => true) (fun x => (Go.Lib.indexByte x.1.data.toList x.2.1.toNat.toUInt8, ())) := sound_indexByte (fn := Tryz.f218) rfl rfl rfl rfl rfl
abbrev M_dz : Lm := [.imm .str, .imm U8]
abbrev R_dz : Lr := [(.imm, I)]
abbrev In_dz := Iq M_dz
abbrev Out_dz := Oq R_dz M_dz
abbrev C_dz := Cq 204 M_dz R_dz
section
variable (g_dy : In_dy -> Out_dy) (p_dy : In_dy -> Bool)
abbrev X_dz : Ctx := ctx tys 8 (conOf [(218, ⟨M_dy, R_dy, p_dy, g_dy⟩)]) (keepOf []) nF
abbrev E_dz := evFn (X_dz g_dy p_dy) Tryz.f204 R_dz M_dz
variable {g_dy p_dy}
theorem ev_dz (k : Nat) (x0 : Dm (.imm .str)) (x1 : Dm (.imm U8)) : E_dz g_dy p_dy k (x0, x1, ()) =
 (cl (p_dy (x0, (x1, ()))) (g_dy (x0, (x1, ()))) fun y0 => (some (y0.1, ()))) := by kernel_rfl
theorem S_dz (h_dy : C_dy p_dy g_dy) {pre fn} (hev : Hq (E_dz g_dy p_dy) pre fn) : C_dz pre fn := sound tysOk mixed (fn := Tryz.f204) rfl rfl rfl (.cons h_dy .nil) _ hev
end
abbrev M_e0 : Lm := [.imm .str, .imm .str]
abbrev R_e0 : Lr := [(.imm, I)]
abbrev In_e0 := Iq M_e0
abbrev Out_e0 := Oq R_e0 M_e0
abbrev C_e0 := Cq 187 M_e0 R_e0
section
variable (g_dz : In_dz -> Out_dz) (p_dz : In_dz -> Bool)
abbrev X_e0 : Ctx := ctx tys 143 (conOf [(204, ⟨M_dz, R_dz, p_dz, g_dz⟩)]) (keepOf [([false, false, true, true, true, true, true, true, true, true], (⟨[(0, .asis), (1, .asis), (5, .asis), (6, .asis), (7, .asis), (8, .asis), (9, .asis), (10, .asis)], [], [999999]⟩ : Keep))]) nF
abbrev E_e0 := evFn (X_e0 g_dz p_dz) Tryz.f187 R_e0 M_e0
def r_e0 := rounds (X_e0 g_dz p_dz) Tryz.f187 R_e0 M_e0
variable {g_dz p_dz}
theorem ev_e0 (k : Nat) (x0 : Dm (.imm .str)) (x1 : Dm (.imm .str)) : E_e0 g_dz p_dz k (x0, x1, ()) =
 (bif (decide (((ByteArray.size x1 : Nat) : Int) = (0 : Int))) then (some ((0 : Int), ())) else (bif (ByteArray.toList x1 == ByteArray.toList x0) then (some ((0 : Int), ())) else (bif (decide (((ByteArray.size x1 : Nat) : Int) = (1 : Int))) then (bif (bif (decide ((0 : Int) <= (0 : Int))) then (decide ((0 : Int) < ((ByteArray.size x1 : Nat) : Int))) else false) then (cl (p_dz (x0, ((strAt x1 (0 : Int)), ()))) (g_dz (x0, ((strAt x1 (0 : Int)), ()))) fun y0 => (some (y0.1, ()))) else none) else (bif (decide (((ByteArray.size x0 : Nat) : Int) <= ((ByteArray.size x1 : Nat) : Int))) then (some ((-1 : Int), ())) else none)))) := by kernel_rfl
theorem S_e0 (h_dz : C_dz p_dz g_dz) {pre fn} (hev : Hq (E_e0 g_dz p_dz) pre fn) : C_e0 pre fn := sound tysOk mixed (fn := Tryz.f187) rfl rfl rfl (.cons h_dz .nil) _ hev
end
abbrev M_e1 : Lm := [.imm .str, .imm .str]
abbrev R_e1 : Lr := [(.imm, I)]
abbrev In_e1 := Iq M_e1
abbrev Out_e1 := Oq R_e1 M_e1
abbrev C_e1 := Cq 141 M_e1 R_e1
section
variable (g_e0 : In_e0 -> Out_e0) (p_e0 : In_e0 -> Bool)
abbrev X_e1 : Ctx := ctx tys 8 (conOf [(187, ⟨M_e0, R_e0, p_e0, g_e0⟩)]) (keepOf []) nF
abbrev E_e1 := evFn (X_e1 g_e0 p_e0) Tryz.f141 R_e1 M_e1
variable {g_e0 p_e0}
theorem ev_e1 (k : Nat) (x0 : Dm (.imm .str)) (x1 : Dm (.imm .str)) : E_e1 g_e0 p_e0 k (x0, x1, ()) =
 (cl (p_e0 (x0, (x1, ()))) (g_e0 (x0, (x1, ()))) fun y0 => (some (y0.1, ()))) := by kernel_rfl
theorem S_e1 (h_e0 : C_e0 p_e0 g_e0) {pre fn} (hev : Hq (E_e1 g_e0 p_e0) pre fn) : C_e1 pre fn := sound tysOk mixed (fn := Tryz.f141) rfl rfl rfl (.cons h_e0 .nil) _ hev
end
abbrev M_e2 : Lm := [.imm .str, .imm .str]
abbrev R_e2 : Lr := [(.imm, .bool)]
abbrev In_e2 := Iq M_e2
abbrev Out_e2 := Oq R_e2 M_e2
abbrev C_e2 := Cq 73 M_e2 R_e2
section
variable (g_e1 : In_e1 -> Out_e1) (p_e1 : In_e1 -> Bool)
abbrev X_e2 : Ctx := ctx tys 9 (conOf [(141, ⟨M_e1, R_e1, p_e1, g_e1⟩)]) (keepOf []) nF
abbrev E_e2 := evFn (X_e2 g_e1 p_e1) Tryz.f73 R_e2 M_e2
variable {g_e1 p_e1}
theorem ev_e2 (k : Nat) (x0 : Dm (.imm .str)) (x1 : Dm (.imm .str)) : E_e2 g_e1 p_e1 k (x0, x1, ()) =
 (cl (p_e1 (x0, (x1, ()))) (g_e1 (x0, (x1, ()))) fun y0 => (some ((decide ((0 : Int) <= y0.1)), ()))) := by kernel_rfl
theorem S_e2 (h_e1 : C_e1 p_e1 g_e1) {pre fn} (hev : Hq (E_e2 g_e1 p_e1) pre fn) : C_e2 pre fn := sound tysOk mixed (fn := Tryz.f73) rfl rfl rfl (.cons h_e1 .nil) _ hev
end
abbrev M_e3 : Lm := [.imm .str, .pR S_manner]
abbrev R_e3 : Lr := [(.imm, .bool)]
abbrev In_e3 := Iq M_e3
abbrev Out_e3 := Oq R_e3 M_e3
abbrev C_e3 := Cq 72 M_e3 R_e3
section
variable (g_e2 : In_e2 -> Out_e2) (p_e2 : In_e2 -> Bool)
abbrev X_e3 : Ctx := ctx tys 8 (conOf [(73, ⟨M_e2, R_e2, p_e2, g_e2⟩)]) (keepOf []) nF
abbrev E_e3 := evFn (X_e3 g_e2 p_e2) Tryz.f72 R_e3 M_e3
variable {g_e2 p_e2}
theorem ev_e3 (k : Nat) (x0 : Dm (.imm .str)) (x1 : Dm (.pR S_manner)) : E_e3 g_e2 p_e2 k (x0, x1, ()) =
 (cl (p_e2 (x1.2.2, (x0, ()))) (g_e2 (x1.2.2, (x0, ()))) fun y0 => (some (y0.1, ()))) := by kernel_rfl
theorem S_e3 (h_e2 : C_e2 p_e2 g_e2) {pre fn} (hev : Hq (E_e3 g_e2 p_e2) pre fn) : C_e3 pre fn := sound tysOk mixed (fn := Tryz.f72) rfl rfl rfl (.cons h_e2 .nil) _ hev
end
abbrev M_e4 : Lm := [.imm S_ReqReq]
abbrev R_e4 : Lr := [(.imm, .bool)]
abbrev In_e4 := Iq M_e4
abbrev Out_e4 := Oq R_e4 M_e4
abbrev C_e4 := Cq 24 M_e4 R_e4
section
variable (g_dx : In_dx -> Out_dx) (g_ck : In_ck -> Out_ck) (p_ck : In_ck -> Bool) (g_e3 : In_e3 -> Out_e3) (p_e3 : In_e3 -> Bool) (g_iin : In_iin -> Out_iin) (g_cd : In_cd -> Out_cd) (g_cb : In_cb -> Out_cb) (g_cz : In_cz -> Out_cz)
abbrev X_e4 : Ctx := ctx tys 92 (conOf [(71, ⟨M_dx, R_dx, fun _ => true, g_dx⟩), (74, ⟨M_ck, R_ck, p_ck, g_ck⟩), (72, ⟨M_e3, R_e3, p_e3, g_e3⟩), (65, ⟨M_iin, R_iin, fun _ => true, g_iin⟩), (75, ⟨M_cd, R_cd, fun _ => true, g_cd⟩), (76, ⟨M_cb, R_cb, fun _ => true, g_cb⟩), (77, ⟨M_cz, R_cz, fun _ => true, g_cz⟩)]) (keepOf []) nF
abbrev E_e4 := evFn (X_e4 g_dx g_ck p_ck g_e3 p_e3 g_iin g_cd g_cb g_cz) Tryz.f24 R_e4 M_e4
variable {g_dx g_ck p_ck g_e3 p_e3 g_iin g_cd g_cb g_cz}
theorem ev_e4 (k : Nat) (x0 : Dm (.imm S_ReqReq)) : E_e4 g_dx g_ck p_ck g_e3 p_e3 g_iin g_cd g_cb g_cz k (x0, ()) =
 (lt (ByteArray.toList (g_dx (x0.2.1, ())).1.1 == ByteArray.toList (ByteArray.mk (Array.mk []))) fun s10 => (lt (decide ((List.length x0.2.2.2.2.2.2 : Int) = (0 : Int))) fun s9 => (lt (g_iin (x0.2.2.2.2.1, ((0 : Int), ((10000 : Int), ())))) fun s8 => (lt (g_iin (x0.2.2.1, ((0 : Int), ((9 : Int), ())))) fun s4 => (lt (ByteArray.mk (Array.mk [(66 : UInt8)])) fun s3 => (lt (ByteArray.mk (Array.mk [(78 : UInt8)])) fun s2 => (lt (g_e3 (s2, ((g_dx (x0.2.1, ())).1, ()))) fun s7 => (lt (ByteArray.mk (Array.mk [(86 : UInt8)])) fun s1 => (lt (g_e3 (s1, ((g_dx (x0.2.1, ())).1, ()))) fun s6 => (lt (ByteArray.mk (Array.mk [(84 : UInt8)])) fun s0 => (lt (g_e3 (s0, ((g_dx (x0.2.1, ())).1, ()))) fun s5 => (bif (decide (x0.2.1 = (1 : Int))) then (cl (p_ck (x0.2.2.2.2.2.2, ())) (g_ck (x0.2.2.2.2.2.2, ())) fun y0 => (bif (decide (x0.2.2.1 = (0 : Int))) then (bif (decide (x0.2.2.2.2.1 = (0 : Int))) then (bif (Sh.beq S_DecDec x0.2.2.2.2.2.1 ((0 : Int), (0 : Int))) then (cl (p_e3 (s0, ((g_dx (x0.2.1, ())).1, ()))) s5 fun y1 => (bif y1.1 then (bif (bif s10 then false else true) then (bif (g_cz (x0.1, ())).1 then (bif (g_cb (x0.2.2.2.1, ())).1 then (some (y0.1, ())) else (some (false, ()))) else (some (false, ()))) else (some (false, ()))) else (bif (bif s10 then false else true) then (bif (g_cz (x0.1, ())).1 then (bif (decide (x0.2.2.2.1 = (0 : Int))) then (some (y0.1, ())) else (some (false, ()))) else (some (false, ()))) else (some (false, ()))))) else (cl (p_e3 (s1, ((g_dx (x0.2.1, ())).1, ()))) s6 fun y2 => (bif y2.1 then (cl (p_e3 (s0, ((g_dx (x0.2.1, ())).1, ()))) s5 fun y3 => (bif y3.1 then (bif (bif s10 then false else true) then (bif (g_cz (x0.1, ())).1 then (bif (g_cd (x0.2.2.2.2.2.1, ())).1 then (bif (g_cb (x0.2.2.2.1, ())).1 then (some (y0.1, ())) else (some (false, ()))) else (some (false, ()))) else (some (false, ()))) else (some (false, ()))) else (bif (bif s10 then false else true) then (bif (g_cz (x0.1, ())).1 then (bif (g_cd (x0.2.2.2.2.2.1, ())).1 then (bif (decide (x0.2.2.2.1 = (0 : Int))) then (some (y0.1, ())) else (some (false, ()))) else (some (false, ()))) else (some (false, ()))) else (some (false, ()))))) else (cl (p_e3 (s0, ((g_dx (x0.2.1, ())).1, ()))) s5 fun y4 => (bif y4.1 then (bif (bif s10 then false else true) then (bif (g_cz (x0.1, ())).1 then (some (false, ())) else (some (false, ()))) else (some (false, ()))) else (bif (bif s10 then false else true) then (bif (g_cz (x0.1, ())).1 then (some (false, ())) else (some (false, ()))) else (some (false, ())))))))) else (cl (p_e3 (s2, ((g_dx (x0.2.1, ())).1, ()))) s7 fun y5 => (bif y5.1 then (bif (Sh.beq S_DecDec x0.2.2.2.2.2.1 ((0 : Int), (0 : Int))) then (cl (p_e3 (s0, ((g_dx (x0.2.1, ())).1, ()))) s5 fun y6 => (bif y6.1 then (bif (bif s10 then false else true) then (bif (g_cz (x0.1, ())).1 then (bif s8.1 then (bif (g_cb (x0.2.2.2.1, ())).1 then (some (y0.1, ())) else (some (false, ()))) else (some (false, ()))) else (some (false, ()))) else (some (false, ()))) else (bif (bif s10 then false else true) then (bif (g_cz (x0.1, ())).1 then (bif s8.1 then (bif (decide (x0.2.2.2.1 = (0 : Int))) then (some (y0.1, ())) else (some (false, ()))) else (some (false, ()))) else (some (false, ()))) else (some (false, ()))))) else (cl (p_e3 (s1, ((g_dx (x0.2.1, ())).1, ()))) s6 fun y7 => (bif y7.1 then (cl (p_e3 (s0, ((g_dx (x0.2.1, ())).1, ()))) s5 fun y8 => (bif y8.1 then (bif (bif s10 then false else true) then (bif (g_cz (x0.1, ())).1 then (bif s8.1 then (bif (g_cd (x0.2.2.2.2.2.1, ())).1 then (bif (g_cb (x0.2.2.2.1, ())).1 then (some (y0.1, ())) else (some (false, ()))) else (some (false, ()))) else (some (false, ()))) else (some (false, ()))) else (some (false, ()))) else (bif (bif s10 then false else true) then (bif (g_cz (x0.1, ())).1 then (bif s8.1 then (bif (g_cd (x0.2.2.2.2.2.1, ())).1 then (bif (decide (x0.2.2.2.1 = (0 : Int))) then (some (y0.1, ())) else (some (false, ()))) else (some (false, ()))) else (some (false, ()))) else (some (false, ()))) else (some (false, ()))))) else (cl (p_e3 (s0, ((g_dx (x0.2.1, ())).1, ()))) s5 fun y9 => (bif y9.1 then (bif (bif s10 then false else true) then (bif (g_cz (x0.1, ())).1 then (bif s8.1 then (some (false, ())) else (some (false, ()))) else (some (false, ()))) else (some (false, ()))) else (bif (bif s10 then false else true) then (bif (g_cz (x0.1, ())).1 then (bif s8.1 then (some (false, ())) else (some (false, ()))) else (some (false, ()))) else (some (false, ())))))))) else (bif (Sh.beq S_DecDec x0.2.2.2.2.2.1 ((0 : Int), (0 : Int))) then (cl (p_e3 (s0, ((g_dx (x0.2.1, ())).1, ()))) s5 fun y10 => (bif y10.1 then (bif (bif s10 then false else true) then (bif (g_cz (x0.1, ())).1 then (some (false, ())) else (some (false, ()))) else (some (false, ()))) else (bif (bif s10 then false else true) then (bif (g_cz (x0.1, ())).1 then (some (false, ())) else (some (false, ()))) else (some (false, ()))))) else (cl (p_e3 (s1, ((g_dx (x0.2.1, ())).1, ()))) s6 fun y11 => (bif y11.1 then (cl (p_e3 (s0, ((g_dx (x0.2.1, ())).1, ()))) s5 fun y12 => (bif y12.1 then (bif (bif s10 then false else true) then (bif (g_cz (x0.1, ())).1 then (some (false, ())) else (some (false, ()))) else (some (false, ()))) else (bif (bif s10 then false else true) then (bif (g_cz (x0.1, ())).1 then (some (false, ())) else (some (false, ()))) else (some (false, ()))))) else (cl (p_e3 (s0, ((g_dx (x0.2.1, ())).1, ()))) s5 fun y13 => (bif y13.1 then (bif (bif s10 then false else true) then (bif (g_cz (x0.1, ())).1 then (some (false, ())) else (some (false, ()))) else (some (false, ()))) else (bif (bif s10 then false else true) then (bif (g_cz (x0.1, ())).1 then (some (false, ())) else (some (false, ()))) else (some (false, ()))))))))))) else (cl (p_e3 (s3, ((g_dx (x0.2.1, ())).1, ()))) (g_e3 (s3, ((g_dx (x0.2.1, ())).1, ()))) fun y14 => (bif y14.1 then (bif (decide (x0.2.2.2.2.1 = (0 : Int))) then (bif (Sh.beq S_DecDec x0.2.2.2.2.2.1 ((0 : Int), (0 : Int))) then (cl (p_e3 (s0, ((g_dx (x0.2.1, ())).1, ()))) s5 fun y15 => (bif y15.1 then (bif (bif s10 then false else true) then (bif (g_cz (x0.1, ())).1 then (bif s4.1 then (bif (g_cb (x0.2.2.2.1, ())).1 then (some (y0.1, ())) else (some (false, ()))) else (some (false, ()))) else (some (false, ()))) else (some (false, ()))) else (bif (bif s10 then false else true) then (bif (g_cz (x0.1, ())).1 then (bif s4.1 then (bif (decide (x0.2.2.2.1 = (0 : Int))) then (some (y0.1, ())) else (some (false, ()))) else (some (false, ()))) else (some (false, ()))) else (some (false, ()))))) else (cl (p_e3 (s1, ((g_dx (x0.2.1, ())).1, ()))) s6 fun y16 => (bif y16.1 then (cl (p_e3 (s0, ((g_dx (x0.2.1, ())).1, ()))) s5 fun y17 => (bif y17.1 then (bif (bif s10 then false else true) then (bif (g_cz (x0.1, ())).1 then (bif s4.1 then (bif (g_cd (x0.2.2.2.2.2.1, ())).1 then (bif (g_cb (x0.2.2.2.1, ())).1 then (some (y0.1, ())) else (some (false, ()))) else (some (false, ()))) else (some (false, ()))) else (some (false, ()))) else (some (false, ()))) else (bif (bif s10 then false else true) then (bif (g_cz (x0.1, ())).1 then (bif s4.1 then (bif (g_cd (x0.2.2.2.2.2.1, ())).1 then (bif (decide (x0.2.2.2.1 = (0 : Int))) then (some (y0.1, ())) else (some (false, ()))) else (some (false, ()))) else (some (false, ()))) else (some (false, ()))) else (some (false, ()))))) else (cl (p_e3 (s0, ((g_dx (x0.2.1, ())).1, ()))) s5 fun y18 => (bif y18.1 then (bif (bif s10 then false else true) then (bif (g_cz (x0.1, ())).1 then (bif s4.1 then (some (false, ())) else (some (false, ()))) else (some (false, ()))) else (some (false, ()))) else (bif (bif s10 then false else true) then (bif (g_cz (x0.1, ())).1 then (bif s4.1 then (some (false, ())) else (some (false, ()))) else (some (false, ()))) else (some (false, ())))))))) else (cl (p_e3 (s2, ((g_dx (x0.2.1, ())).1, ()))) s7 fun y19 => (bif y19.1 then (bif (Sh.beq S_DecDec x0.2.2.2.2.2.1 ((0 : Int), (0 : Int))) then (cl (p_e3 (s0, ((g_dx (x0.2.1, ())).1, ()))) s5 fun y20 => (bif y20.1 then (bif (bif s10 then false else true) then (bif (g_cz (x0.1, ())).1 then (bif s4.1 then (bif s8.1 then (bif (g_cb (x0.2.2.2.1, ())).1 then (some (y0.1, ())) else (some (false, ()))) else (some (false, ()))) else (some (false, ()))) else (some (false, ()))) else (some (false, ()))) else (bif (bif s10 then false else true) then (bif (g_cz (x0.1, ())).1 then (bif s4.1 then (bif s8.1 then (bif (decide (x0.2.2.2.1 = (0 : Int))) then (some (y0.1, ())) else (some (false, ()))) else (some (false, ()))) else (some (false, ()))) else (some (false, ()))) else (some (false, ()))))) else (cl (p_e3 (s1, ((g_dx (x0.2.1, ())).1, ()))) s6 fun y21 => (bif y21.1 then (cl (p_e3 (s0, ((g_dx (x0.2.1, ())).1, ()))) s5 fun y22 => (bif y22.1 then (bif (bif s10 then false else true) then (bif (g_cz (x0.1, ())).1 then (bif s4.1 then (bif s8.1 then (bif (g_cd (x0.2.2.2.2.2.1, ())).1 then (bif (g_cb (x0.2.2.2.1, ())).1 then (some (y0.1, ())) else (some (false, ()))) else (some (false, ()))) else (some (false, ()))) else (some (false, ()))) else (some (false, ()))) else (some (false, ()))) else (bif (bif s10 then false else true) then (bif (g_cz (x0.1, ())).1 then (bif s4.1 then (bif s8.1 then (bif (g_cd (x0.2.2.2.2.2.1, ())).1 then (bif (decide (x0.2.2.2.1 = (0 : Int))) then (some (y0.1, ())) else (some (false, ()))) else (some (false, ()))) else (some (false, ()))) else (some (false, ()))) else (some (false, ()))) else (some (false, ()))))) else (cl (p_e3 (s0, ((g_dx (x0.2.1, ())).1, ()))) s5 fun y23 => (bif y23.1 then (bif (bif s10 then false else true) then (bif (g_cz (x0.1, ())).1 then (bif s4.1 then (bif s8.1 then (some (false, ())) else (some (false, ()))) else (some (false, ()))) else (some (false, ()))) else (some (false, ()))) else (bif (bif s10 then false else true) then (bif (g_cz (x0.1, ())).1 then (bif s4.1 then (bif s8.1 then (some (false, ())) else (some (false, ()))) else (some (false, ()))) else (some (false, ()))) else (some (false, ())))))))) else (bif (Sh.beq S_DecDec x0.2.2.2.2.2.1 ((0 : Int), (0 : Int))) then (cl (p_e3 (s0, ((g_dx (x0.2.1, ())).1, ()))) s5 fun y24 => (bif y24.1 then (bif (bif s10 then false else true) then (bif (g_cz (x0.1, ())).1 then (bif s4.1 then (some (false, ())) else (some (false, ()))) else (some (false, ()))) else (some (false, ()))) else (bif (bif s10 then false else true) then (bif (g_cz (x0.1, ())).1 then (bif s4.1 then (some (false, ())) else (some (false, ()))) else (some (false, ()))) else (some (false, ()))))) else (cl (p_e3 (s1, ((g_dx (x0.2.1, ())).1, ()))) s6 fun y25 => (bif y25.1 then (cl (p_e3 (s0, ((g_dx (x0.2.1, ())).1, ()))) s5 fun y26 => (bif y26.1 then (bif (bif s10 then false else true) then (bif (g_cz (x0.1, ())).1 then (bif s4.1 then (some (false, ())) else (some (false, ()))) else (some (false, ()))) else (some (false, ()))) else (bif (bif s10 then false else true) then (bif (g_cz (x0.1, ())).1 then (bif s4.1 then (some (false, ())) else (some (false, ()))) else (some (false, ()))) else (some (false, ()))))) else (cl (p_e3 (s0, ((g_dx (x0.2.1, ())).1, ()))) s5 fun y27 => (bif y27.1 then (bif (bif s10 then false else true) then (bif (g_cz (x0.1, ())).1 then (bif s4.1 then (some (false, ())) else (some (false, ()))) else (some (false, ()))) else (some (false, ()))) else (bif (bif s10 then false else true) then (bif (g_cz (x0.1, ())).1 then (bif s4.1 then (some (false, ())) else (some (false, ()))) else (some (false, ()))) else (some (false, ()))))))))))) else (bif (decide (x0.2.2.2.2.1 = (0 : Int))) then (bif (Sh.beq S_DecDec x0.2.2.2.2.2.1 ((0 : Int), (0 : Int))) then (cl (p_e3 (s0, ((g_dx (x0.2.1, ())).1, ()))) s5 fun y28 => (bif y28.1 then (bif (bif s10 then false else true) then (bif (g_cz (x0.1, ())).1 then (some (false, ())) else (some (false, ()))) else (some (false, ()))) else (bif (bif s10 then false else true) then (bif (g_cz (x0.1, ())).1 then (some (false, ())) else (some (false, ()))) else (some (false, ()))))) else (cl (p_e3 (s1, ((g_dx (x0.2.1, ())).1, ()))) s6 fun y29 => (bif y29.1 then (cl (p_e3 (s0, ((g_dx (x0.2.1, ())).1, ()))) s5 fun y30 => (bif y30.1 then (bif (bif s10 then false else true) then (bif (g_cz (x0.1, ())).1 then (some (false, ())) else (some (false, ()))) else (some (false, ()))) else (bif (bif s10 then false else true) then (bif (g_cz (x0.1, ())).1 then (some (false, ())) else (some (false, ()))) else (some (false, ()))))) else (cl (p_e3 (s0, ((g_dx (x0.2.1, ())).1, ()))) s5 fun y31 => (bif y31.1 then (bif (bif s10 then false else true) then (bif (g_cz (x0.1, ())).1 then (some (false, ())) else (some (false, ()))) else (some (false, ()))) else (bif (bif s10 then false else true) then (bif (g_cz (x0.1, ())).1 then (some (false, ())) else (some (false, ()))) else (some (false, ())))))))) else (cl (p_e3 (s2, ((g_dx (x0.2.1, ())).1, ()))) s7 fun y32 => (bif y32.1 then (bif (Sh.beq S_DecDec x0.2.2.2.2.2.1 ((0 : Int), (0 : Int))) then (cl (p_e3 (s0, ((g_dx (x0.2.1, ())).1, ()))) s5 fun y33 => (bif y33.1 then (bif (bif s10 then false else true) then (bif (g_cz (x0.1, ())).1 then (some (false, ())) else (some (false, ()))) else (some (false, ()))) else (bif (bif s10 then false else true) then (bif (g_cz (x0.1, ())).1 then (some (false, ())) else (some (false, ()))) else (some (false, ()))))) else (cl (p_e3 (s1, ((g_dx (x0.2.1, ())).1, ()))) s6 fun y34 => (bif y34.1 then (cl (p_e3 (s0, ((g_dx (x0.2.1, ())).1, ()))) s5 fun y35 => (bif y35.1 then (bif (bif s10 then false else true) then (bif (g_cz (x0.1, ())).1 then (some (false, ())) else (some (false, ()))) else (some (false, ()))) else (bif (bif s10 then false else true) then (bif (g_cz (x0.1, ())).1 then (some (false, ())) else (some (false, ()))) else (some (false, ()))))) else (cl (p_e3 (s0, ((g_dx (x0.2.1, ())).1, ()))) s5 fun y36 => (bif y36.1 then (bif (bif s10 then false else true) then (bif (g_cz (x0.1, ())).1 then (some (false, ())) else (some (false, ()))) else (some (false, ()))) else (bif (bif s10 then false else true) then (bif (g_cz (x0.1, ())).1 then (some (false, ())) else (some (false, ()))) else (some (false, ())))))))) else (bif (Sh.beq S_DecDec x0.2.2.2.2.2.1 ((0 : Int), (0 : Int))) then (cl (p_e3 (s0, ((g_dx (x0.2.1, ())).1, ()))) s5 fun y37 => (bif y37.1 then (bif (bif s10 then false else true) then (bif (g_cz (x0.1, ())).1 then (some (false, ())) else (some (false, ()))) else (some (false, ()))) else (bif (bif s10 then false else true) then (bif (g_cz (x0.1, ())).1 then (some (false, ())) else (some (false, ()))) else (some (false, ()))))) else (cl (p_e3 (s1, ((g_dx (x0.2.1, ())).1, ()))) s6 fun y38 => (bif y38.1 then (cl (p_e3 (s0, ((g_dx (x0.2.1, ())).1, ()))) s5 fun y39 => (bif y39.1 then (bif (bif s10 then false else true) then (bif (g_cz (x0.1, ())).1 then (some (false, ())) else (some (false, ()))) else (some (false, ()))) else (bif (bif s10 then false else true) then (bif (g_cz (x0.1, ())).1 then (some (false, ())) else (some (false, ()))) else (some (false, ()))))) else (cl (p_e3 (s0, ((g_dx (x0.2.1, ())).1, ()))) s5 fun y40 => (bif y40.1 then (bif (bif s10 then false else true) then (bif (g_cz (x0.1, ())).1 then (some (false, ())) else (some (false, ()))) else (some (false, ()))) else (bif (bif s10 then false else true) then (bif (g_cz (x0.1, ())).1 then (some (false, ())) else (some (false, ()))) else (some (false, ()))))))))))))))) else (bif (decide (x0.2.2.1 = (0 : Int))) then (bif (decide (x0.2.2.2.2.1 = (0 : Int))) then (bif (Sh.beq S_DecDec x0.2.2.2.2.2.1 ((0 : Int), (0 : Int))) then (cl (p_e3 (s0, ((g_dx (x0.2.1, ())).1, ()))) s5 fun y41 => (bif y41.1 then (bif (bif s10 then false else true) then (bif (g_cz (x0.1, ())).1 then (bif (g_cb (x0.2.2.2.1, ())).1 then (some (s9, ())) else (some (false, ()))) else (some (false, ()))) else (some (false, ()))) else (bif (bif s10 then false else true) then (bif (g_cz (x0.1, ())).1 then (bif (decide (x0.2.2.2.1 = (0 : Int))) then (some (s9, ())) else (some (false, ()))) else (some (false, ()))) else (some (false, ()))))) else (cl (p_e3 (s1, ((g_dx (x0.2.1, ())).1, ()))) s6 fun y42 => (bif y42.1 then (cl (p_e3 (s0, ((g_dx (x0.2.1, ())).1, ()))) s5 fun y43 => (bif y43.1 then (bif (bif s10 then false else true) then (bif (g_cz (x0.1, ())).1 then (bif (g_cd (x0.2.2.2.2.2.1, ())).1 then (bif (g_cb (x0.2.2.2.1, ())).1 then (some (s9, ())) else (some (false, ()))) else (some (false, ()))) else (some (false, ()))) else (some (false, ()))) else (bif (bif s10 then false else true) then (bif (g_cz (x0.1, ())).1 then (bif (g_cd (x0.2.2.2.2.2.1, ())).1 then (bif (decide (x0.2.2.2.1 = (0 : Int))) then (some (s9, ())) else (some (false, ()))) else (some (false, ()))) else (some (false, ()))) else (some (false, ()))))) else (cl (p_e3 (s0, ((g_dx (x0.2.1, ())).1, ()))) s5 fun y44 => (bif y44.1 then (bif (bif s10 then false else true) then (bif (g_cz (x0.1, ())).1 then (some (false, ())) else (some (false, ()))) else (some (false, ()))) else (bif (bif s10 then false else true) then (bif (g_cz (x0.1, ())).1 then (some (false, ())) else (some (false, ()))) else (some (false, ())))))))) else (cl (p_e3 (s2, ((g_dx (x0.2.1, ())).1, ()))) s7 fun y45 => (bif y45.1 then (bif (Sh.beq S_DecDec x0.2.2.2.2.2.1 ((0 : Int), (0 : Int))) then (cl (p_e3 (s0, ((g_dx (x0.2.1, ())).1, ()))) s5 fun y46 => (bif y46.1 then (bif (bif s10 then false else true) then (bif (g_cz (x0.1, ())).1 then (bif s8.1 then (bif (g_cb (x0.2.2.2.1, ())).1 then (some (s9, ())) else (some (false, ()))) else (some (false, ()))) else (some (false, ()))) else (some (false, ()))) else (bif (bif s10 then false else true) then (bif (g_cz (x0.1, ())).1 then (bif s8.1 then (bif (decide (x0.2.2.2.1 = (0 : Int))) then (some (s9, ())) else (some (false, ()))) else (some (false, ()))) else (some (false, ()))) else (some (false, ()))))) else (cl (p_e3 (s1, ((g_dx (x0.2.1, ())).1, ()))) s6 fun y47 => (bif y47.1 then (cl (p_e3 (s0, ((g_dx (x0.2.1, ())).1, ()))) s5 fun y48 => (bif y48.1 then (bif (bif s10 then false else true) then (bif (g_cz (x0.1, ())).1 then (bif s8.1 then (bif (g_cd (x0.2.2.2.2.2.1, ())).1 then (bif (g_cb (x0.2.2.2.1, ())).1 then (some (s9, ())) else (some (false, ()))) else (some (false, ()))) else (some (false, ()))) else (some (false, ()))) else (some (false, ()))) else (bif (bif s10 then false else true) then (bif (g_cz (x0.1, ())).1 then (bif s8.1 then (bif (g_cd (x0.2.2.2.2.2.1, ())).1 then (bif (decide (x0.2.2.2.1 = (0 : Int))) then (some (s9, ())) else (some (false, ()))) else (some (false, ()))) else (some (false, ()))) else (some (false, ()))) else (some (false, ()))))) else (cl (p_e3 (s0, ((g_dx (x0.2.1, ())).1, ()))) s5 fun y49 => (bif y49.1 then (bif (bif s10 then false else true) then (bif (g_cz (x0.1, ())).1 then (bif s8.1 then (some (false, ())) else (some (false, ()))) else (some (false, ()))) else (some (false, ()))) else (bif (bif s10 then false else true) then (bif (g_cz (x0.1, ())).1 then (bif s8.1 then (some (false, ())) else (some (false, ()))) else (some (false, ()))) else (some (false, ())))))))) else (bif (Sh.beq S_DecDec x0.2.2.2.2.2.1 ((0 : Int), (0 : Int))) then (cl (p_e3 (s0, ((g_dx (x0.2.1, ())).1, ()))) s5 fun y50 => (bif y50.1 then (bif (bif s10 then false else true) then (bif (g_cz (x0.1, ())).1 then (some (false, ())) else (some (false, ()))) else (some (false, ()))) else (bif (bif s10 then false else true) then (bif (g_cz (x0.1, ())).1 then (some (false, ())) else (some (false, ()))) else (some (false, ()))))) else (cl (p_e3 (s1, ((g_dx (x0.2.1, ())).1, ()))) s6 fun y51 => (bif y51.1 then (cl (p_e3 (s0, ((g_dx (x0.2.1, ())).1, ()))) s5 fun y52 => (bif y52.1 then (bif (bif s10 then false else true) then (bif (g_cz (x0.1, ())).1 then (some (false, ())) else (some (false, ()))) else (some (false, ()))) else (bif (bif s10 then false else true) then (bif (g_cz (x0.1, ())).1 then (some (false, ())) else (some (false, ()))) else (some (false, ()))))) else (cl (p_e3 (s0, ((g_dx (x0.2.1, ())).1, ()))) s5 fun y53 => (bif y53.1 then (bif (bif s10 then false else true) then (bif (g_cz (x0.1, ())).1 then (some (false, ())) else (some (false, ()))) else (some (false, ()))) else (bif (bif s10 then false else true) then (bif (g_cz (x0.1, ())).1 then (some (false, ())) else (some (false, ()))) else (some (false, ()))))))))))) else (cl (p_e3 (s3, ((g_dx (x0.2.1, ())).1, ()))) (g_e3 (s3, ((g_dx (x0.2.1, ())).1, ()))) fun y54 => (bif y54.1 then (bif (decide (x0.2.2.2.2.1 = (0 : Int))) then (bif (Sh.beq S_DecDec x0.2.2.2.2.2.1 ((0 : Int), (0 : Int))) then (cl (p_e3 (s0, ((g_dx (x0.2.1, ())).1, ()))) s5 fun y55 => (bif y55.1 then (bif (bif s10 then false else true) then (bif (g_cz (x0.1, ())).1 then (bif s4.1 then (bif (g_cb (x0.2.2.2.1, ())).1 then (some (s9, ())) else (some (false, ()))) else (some (false, ()))) else (some (false, ()))) else (some (false, ()))) else (bif (bif s10 then false else true) then (bif (g_cz (x0.1, ())).1 then (bif s4.1 then (bif (decide (x0.2.2.2.1 = (0 : Int))) then (some (s9, ())) else (some (false, ()))) else (some (false, ()))) else (some (false, ()))) else (some (false, ()))))) else (cl (p_e3 (s1, ((g_dx (x0.2.1, ())).1, ()))) s6 fun y56 => (bif y56.1 then (cl (p_e3 (s0, ((g_dx (x0.2.1, ())).1, ()))) s5 fun y57 => (bif y57.1 then (bif (bif s10 then false else true) then (bif (g_cz (x0.1, ())).1 then (bif s4.1 then (bif (g_cd (x0.2.2.2.2.2.1, ())).1 then (bif (g_cb (x0.2.2.2.1, ())).1 then (some (s9, ())) else (some (false, ()))) else (some (false, ()))) else (some (false, ()))) else (some (false, ()))) else (some (false, ()))) else (bif (bif s10 then false else true) then (bif (g_cz (x0.1, ())).1 then (bif s4.1 then (bif (g_cd (x0.2.2.2.2.2.1, ())).1 then (bif (decide (x0.2.2.2.1 = (0 : Int))) then (some (s9, ())) else (some (false, ()))) else (some (false, ()))) else (some (false, ()))) else (some (false, ()))) else (some (false, ()))))) else (cl (p_e3 (s0, ((g_dx (x0.2.1, ())).1, ()))) s5 fun y58 => (bif y58.1 then (bif (bif s10 then false else true) then (bif (g_cz (x0.1, ())).1 then (bif s4.1 then (some (false, ())) else (some (false, ()))) else (some (false, ()))) else (some (false, ()))) else (bif (bif s10 then false else true) then (bif (g_cz (x0.1, ())).1 then (bif s4.1 then (some (false, ())) else (some (false, ()))) else (some (false, ()))) else (some (false, ())))))))) else (cl (p_e3 (s2, ((g_dx (x0.2.1, ())).1, ()))) s7 fun y59 => (bif y59.1 then (bif (Sh.beq S_DecDec x0.2.2.2.2.2.1 ((0 : Int), (0 : Int))) then (cl (p_e3 (s0, ((g_dx (x0.2.1, ())).1, ()))) s5 fun y60 => (bif y60.1 then (bif (bif s10 then false else true) then (bif (g_cz (x0.1, ())).1 then (bif s4.1 then (bif s8.1 then (bif (g_cb (x0.2.2.2.1, ())).1 then (some (s9, ())) else (some (false, ()))) else (some (false, ()))) else (some (false, ()))) else (some (false, ()))) else (some (false, ()))) else (bif (bif s10 then false else true) then (bif (g_cz (x0.1, ())).1 then (bif s4.1 then (bif s8.1 then (bif (decide (x0.2.2.2.1 = (0 : Int))) then (some (s9, ())) else (some (false, ()))) else (some (false, ()))) else (some (false, ()))) else (some (false, ()))) else (some (false, ()))))) else (cl (p_e3 (s1, ((g_dx (x0.2.1, ())).1, ()))) s6 fun y61 => (bif y61.1 then (cl (p_e3 (s0, ((g_dx (x0.2.1, ())).1, ()))) s5 fun y62 => (bif y62.1 then (bif (bif s10 then false else true) then (bif (g_cz (x0.1, ())).1 then (bif s4.1 then (bif s8.1 then (bif (g_cd (x0.2.2.2.2.2.1, ())).1 then (bif (g_cb (x0.2.2.2.1, ())).1 then (some (s9, ())) else (some (false, ()))) else (some (false, ()))) else (some (false, ()))) else (some (false, ()))) else (some (false, ()))) else (some (false, ()))) else (bif (bif s10 then false else true) then (bif (g_cz (x0.1, ())).1 then (bif s4.1 then (bif s8.1 then (bif (g_cd (x0.2.2.2.2.2.1, ())).1 then (bif (decide (x0.2.2.2.1 = (0 : Int))) then (some (s9, ())) else (some (false, ()))) else (some (false, ()))) else (some (false, ()))) else (some (false, ()))) else (some (false, ()))) else (some (false, ()))))) else (cl (p_e3 (s0, ((g_dx (x0.2.1, ())).1, ()))) s5 fun y63 => (bif y63.1 then (bif (bif s10 then false else true) then (bif (g_cz (x0.1, ())).1 then (bif s4.1 then (bif s8.1 then (some (false, ())) else (some (false, ()))) else (some (false, ()))) else (some (false, ()))) else (some (false, ()))) else (bif (bif s10 then false else true) then (bif (g_cz (x0.1, ())).1 then (bif s4.1 then (bif s8.1 then (some (false, ())) else (some (false, ()))) else (some (false, ()))) else (some (false, ()))) else (some (false, ())))))))) else (bif (Sh.beq S_DecDec x0.2.2.2.2.2.1 ((0 : Int), (0 : Int))) then (cl (p_e3 (s0, ((g_dx (x0.2.1, ())).1, ()))) s5 fun y64 => (bif y64.1 then (bif (bif s10 then false else true) then (bif (g_cz (x0.1, ())).1 then (bif s4.1 then (some (false, ())) else (some (false, ()))) else (some (false, ()))) else (some (false, ()))) else (bif (bif s10 then false else true) then (bif (g_cz (x0.1, ())).1 then (bif s4.1 then (some (false, ())) else (some (false, ()))) else (some (false, ()))) else (some (false, ()))))) else (cl (p_e3 (s1, ((g_dx (x0.2.1, ())).1, ()))) s6 fun y65 => (bif y65.1 then (cl (p_e3 (s0, ((g_dx (x0.2.1, ())).1, ()))) s5 fun y66 => (bif y66.1 then (bif (bif s10 then false else true) then (bif (g_cz (x0.1, ())).1 then (bif s4.1 then (some (false, ())) else (some (false, ()))) else (some (false, ()))) else (some (false, ()))) else (bif (bif s10 then false else true) then (bif (g_cz (x0.1, ())).1 then (bif s4.1 then (some (false, ())) else (some (false, ()))) else (some (false, ()))) else (some (false, ()))))) else (cl (p_e3 (s0, ((g_dx (x0.2.1, ())).1, ()))) s5 fun y67 => (bif y67.1 then (bif (bif s10 then false else true) then (bif (g_cz (x0.1, ())).1 then (bif s4.1 then (some (false, ())) else (some (false, ()))) else (some (false, ()))) else (some (false, ()))) else (bif (bif s10 then false else true) then (bif (g_cz (x0.1, ())).1 then (bif s4.1 then (some (false, ())) else (some (false, ()))) else (some (false, ()))) else (some (false, ()))))))))))) else (bif (decide (x0.2.2.2.2.1 = (0 : Int))) then (bif (Sh.beq S_DecDec x0.2.2.2.2.2.1 ((0 : Int), (0 : Int))) then (cl (p_e3 (s0, ((g_dx (x0.2.1, ())).1, ()))) s5 fun y68 => (bif y68.1 then (bif (bif s10 then false else true) then (bif (g_cz (x0.1, ())).1 then (some (false, ())) else (some (false, ()))) else (some (false, ()))) else (bif (bif s10 then false else true) then (bif (g_cz (x0.1, ())).1 then (some (false, ())) else (some (false, ()))) else (some (false, ()))))) else (cl (p_e3 (s1, ((g_dx (x0.2.1, ())).1, ()))) s6 fun y69 => (bif y69.1 then (cl (p_e3 (s0, ((g_dx (x0.2.1, ())).1, ()))) s5 fun y70 => (bif y70.1 then (bif (bif s10 then false else true) then (bif (g_cz (x0.1, ())).1 then (some (false, ())) else (some (false, ()))) else (some (false, ()))) else (bif (bif s10 then false else true) then (bif (g_cz (x0.1, ())).1 then (some (false, ())) else (some (false, ()))) else (some (false, ()))))) else (cl (p_e3 (s0, ((g_dx (x0.2.1, ())).1, ()))) s5 fun y71 => (bif y71.1 then (bif (bif s10 then false else true) then (bif (g_cz (x0.1, ())).1 then (some (false, ())) else (some (false, ()))) else (some (false, ()))) else (bif (bif s10 then false else true) then (bif (g_cz (x0.1, ())).1 then (some (false, ())) else (some (false, ()))) else (some (false, ())))))))) else (cl (p_e3 (s2, ((g_dx (x0.2.1, ())).1, ()))) s7 fun y72 => (bif y72.1 then (bif (Sh.beq S_DecDec x0.2.2.2.2.2.1 ((0 : Int), (0 : Int))) then (cl (p_e3 (s0, ((g_dx (x0.2.1, ())).1, ()))) s5 fun y73 => (bif y73.1 then (bif (bif s10 then false else true) then (bif (g_cz (x0.1, ())).1 then (some (false, ())) else (some (false, ()))) else (some (false, ()))) else (bif (bif s10 then false else true) then (bif (g_cz (x0.1, ())).1 then (some (false, ())) else (some (false, ()))) else (some (false, ()))))) else (cl (p_e3 (s1, ((g_dx (x0.2.1, ())).1, ()))) s6 fun y74 => (bif y74.1 then (cl (p_e3 (s0, ((g_dx (x0.2.1, ())).1, ()))) s5 fun y75 => (bif y75.1 then (bif (bif s10 then false else true) then (bif (g_cz (x0.1, ())).1 then (some (false, ())) else (some (false, ()))) else (some (false, ()))) else (bif (bif s10 then false else true) then (bif (g_cz (x0.1, ())).1 then (some (false, ())) else (some (false, ()))) else (some (false, ()))))) else (cl (p_e3 (s0, ((g_dx (x0.2.1, ())).1, ()))) s5 fun y76 => (bif y76.1 then (bif (bif s10 then false else true) then (bif (g_cz (x0.1, ())).1 then (some (false, ())) else (some (false, ()))) else (some (false, ()))) else (bif (bif s10 then false else true) then (bif (g_cz (x0.1, ())).1 then (some (false, ())) else (some (false, ()))) else (some (false, ())))))))) else (bif (Sh.beq S_DecDec x0.2.2.2.2.2.1 ((0 : Int), (0 : Int))) then (cl (p_e3 (s0, ((g_dx (x0.2.1, ())).1, ()))) s5 fun y77 => (bif y77.1 then (bif (bif s10 then false else true) then (bif (g_cz (x0.1, ())).1 then (some (false, ())) else (some (false, ()))) else (some (false, ()))) else (bif (bif s10 then false else true) then (bif (g_cz (x0.1, ())).1 then (some (false, ())) else (some (false, ()))) else (some (false, ()))))) else (cl (p_e3 (s1, ((g_dx (x0.2.1, ())).1, ()))) s6 fun y78 => (bif y78.1 then (cl (p_e3 (s0, ((g_dx (x0.2.1, ())).1, ()))) s5 fun y79 => (bif y79.1 then (bif (bif s10 then false else true) then (bif (g_cz (x0.1, ())).1 then (some (false, ())) else (some (false, ()))) else (some (false, ()))) else (bif (bif s10 then false else true) then (bif (g_cz (x0.1, ())).1 then (some (false, ())) else (some (false, ()))) else (some (false, ()))))) else (cl (p_e3 (s0, ((g_dx (x0.2.1, ())).1, ()))) s5 fun y80 => (bif y80.1 then (bif (bif s10 then false else true) then (bif (g_cz (x0.1, ())).1 then (some (false, ())) else (some (false, ()))) else (some (false, ()))) else (bif (bif s10 then false else true) then (bif (g_cz (x0.1, ())).1 then (some (false, ())) else (some (false, ()))) else (some (false, ())))))))))))))))))))))))))) := by kernel_rfl
theorem S_e4 (h_dx : C_dx (fun _ => true) g_dx) (h_ck : C_ck p_ck g_ck) (h_e3 : C_e3 p_e3 g_e3) (h_iin : C_iin (fun _ => true) g_iin) (h_cd : C_cd (fun _ => true) g_cd) (h_cb : C_cb (fun _ => true) g_cb) (h_cz : C_cz (fun _ => true) g_cz) {pre fn} (hev : Hq (E_e4 g_dx g_ck p_ck g_e3 p_e3 g_iin g_cd g_cb g_cz) pre fn) : C_e4 pre fn := sound tysOk mixed (fn := Tryz.f24) rfl rfl rfl (.cons h_dx (.cons h_ck (.cons h_e3 (.cons h_iin (.cons h_cd (.cons h_cb (.cons h_cz .nil))))))) _ hev
end
abbrev M_e5 : Lm := [.imm L_int]
abbrev R_e5 : Lr := [(.own, L_int)]
abbrev In_e5 := Iq M_e5
abbrev Out_e5 := Oq R_e5 M_e5
abbrev C_e5 := Cq 125 M_e5 R_e5
abbrev X_e5 : Ctx := ctx tys 8 (conOf []) (keepOf []) nF
abbrev E_e5 := evFn X_e5 Tryz.f125 R_e5 M_e5
theorem ev_e5 (k : Nat) (x0 : Dm (.imm L_int)) : E_e5 k (x0, ()) =
 (bif (List.isEmpty x0) then (agree (some ([], ())) (bif (fitL [] x0) then (some ((List.append [] x0), ())) else none)) else (bif (fitL [] x0) then (some ((List.append [] x0), ())) else none)) := by kernel_rfl
theorem S_e5  {pre fn} (hev : Hq E_e5 pre fn) : C_e5 pre fn := sound tysOk mixed (fn := Tryz.f125) rfl rfl rfl ConsOk.nil _ hev
abbrev M_e6 : Lm := [.imm L_SpcTest]
abbrev R_e6 : Lr := [(.own, L_SpcTest)]
abbrev In_e6 := Iq M_e6
abbrev Out_e6 := Oq R_e6 M_e6
abbrev C_e6 := Cq 182 M_e6 R_e6
abbrev X_e6 : Ctx := ctx tys 8 (conOf []) (keepOf []) nF
abbrev E_e6 := evFn X_e6 Tryz.f182 R_e6 M_e6
theorem ev_e6 (k : Nat) (x0 : Dm (.imm L_SpcTest)) : E_e6 k (x0, ()) =
 (bif (List.isEmpty x0) then (agree (some ([], ())) (bif (fitL [] x0) then (some ((List.append [] x0), ())) else none)) else (bif (fitL [] x0) then (some ((List.append [] x0), ())) else none)) := by kernel_rfl
theorem S_e6  {pre fn} (hev : Hq E_e6 pre fn) : C_e6 pre fn := sound tysOk mixed (fn := Tryz.f182) rfl rfl rfl ConsOk.nil _ hev
abbrev M_e7 : Lm := [.imm L_SpcSpec]
abbrev R_e7 : Lr := [(.own, L_SpcSpec)]
abbrev In_e7 := Iq M_e7
abbrev Out_e7 := Oq R_e7 M_e7
abbrev C_e7 := Cq 126 M_e7 R_e7
section
variable (g_e6 : In_e6 -> Out_e6) (p_e6 : In_e6 -> Bool)
abbrev X_e7 : Ctx := ctx tys 23 (conOf [(182, ⟨M_e6, R_e6, p_e6, g_e6⟩)]) (keepOf [(pt0, (⟨[(3, .own), (6, .asis), (7, .asis), (8, .asis)], [], []⟩ : Keep))]) nF
abbrev E_e7 := evFn (X_e7 g_e6 p_e6) Tryz.f126 R_e7 M_e7
def h0_e7 (x0 : Dm (.imm L_SpcSpec)) (h0 : Dn I) (h1 : Dn I) (h2 : (List (Dn S_SpcSpec))) : St := mkS [(3, (AV.sref 2503 none [])), (6, (AV.val L_SpcSpec x0)), (7, (AV.val I h0)), (8, (AV.val I h1))] [(2503, (Ob.arr 83 S_SpcSpec h2))]
def r_e7 := rounds (X_e7 g_e6 p_e6) Tryz.f126 R_e7 M_e7
variable {g_e6 p_e6}
theorem ev_e7 (k : Nat) (x0 : Dm (.imm L_SpcSpec)) : E_e7 g_e6 p_e6 k (x0, ()) =
 (r_e7 g_e6 p_e6 (x0, ()) k pt0 (h0_e7 x0 (List.length x0 : Int) (0 : Int) [])) := by kernel_rfl
theorem rd0_e7 (k : Nat) (x0 : Dm (.imm L_SpcSpec)) (h0 : Dn I) (h1 : Dn I) (h2 : (List (Dn S_SpcSpec))) : r_e7 g_e6 p_e6 (x0, ()) (k + 1) pt0 (h0_e7 x0 h0 h1 h2) =
 (bif (decide (h1 < h0)) then (bif (bif (decide ((0 : Int) <= h1)) then (decide (h1 < (List.length x0 : Int))) else false) then (bif (p_e6 ((rdL (e := S_SpcSpec) x0 h1).1, ())) then (bif (fitL h2 [((g_e6 ((rdL (e := S_SpcSpec) x0 h1).1, ())).1, (rdL (e := S_SpcSpec) x0 h1).2)]) then (r_e7 g_e6 p_e6 (x0, ()) k pt0 (h0_e7 x0 h0 (w64 (h1 + (1 : Int))) (List.append h2 [((g_e6 ((rdL (e := S_SpcSpec) x0 h1).1, ())).1, (rdL (e := S_SpcSpec) x0 h1).2)]))) else none) else none) else none) else (some (h2, ()))) := by kernel_rfl
theorem S_e7 (h_e6 : C_e6 p_e6 g_e6) {pre fn} (hev : Hq (E_e7 g_e6 p_e6) pre fn) : C_e7 pre fn := sound tysOk mixed (fn := Tryz.f126) rfl rfl rfl (.cons h_e6 .nil) _ hev
end
abbrev M_e8 : Lm := [.imm L_DecDec]
abbrev R_e8 : Lr := [(.own, L_DecDec)]
abbrev In_e8 := Iq M_e8
abbrev Out_e8 := Oq R_e8 M_e8
abbrev C_e8 := Cq 198 M_e8 R_e8
abbrev X_e8 : Ctx := ctx tys 8 (conOf []) (keepOf []) nF
abbrev E_e8 := evFn X_e8 Tryz.f198 R_e8 M_e8
theorem ev_e8 (k : Nat) (x0 : Dm (.imm L_DecDec)) : E_e8 k (x0, ()) =
 (bif (List.isEmpty x0) then (agree (some ([], ())) (bif (fitL [] x0) then (some ((List.append [] x0), ())) else none)) else (bif (fitL [] x0) then (some ((List.append [] x0), ())) else none)) := by kernel_rfl
theorem S_e8  {pre fn} (hev : Hq E_e8 pre fn) : C_e8 pre fn := sound tysOk mixed (fn := Tryz.f198) rfl rfl rfl ConsOk.nil _ hev
abbrev M_e9 : Lm := [.imm S_TstTest]
abbrev R_e9 : Lr := [(.own, S_TstTest)]
abbrev In_e9 := Iq M_e9
abbrev Out_e9 := Oq R_e9 M_e9
abbrev C_e9 := Cq 163 M_e9 R_e9
section
variable (g_e8 : In_e8 -> Out_e8) (p_e8 : In_e8 -> Bool)
abbrev X_e9 : Ctx := ctx tys 8 (conOf [(198, ⟨M_e8, R_e8, p_e8, g_e8⟩)]) (keepOf []) nF
abbrev E_e9 := evFn (X_e9 g_e8 p_e8) Tryz.f163 R_e9 M_e9
variable {g_e8 p_e8}
theorem ev_e9 (k : Nat) (x0 : Dm (.imm S_TstTest)) : E_e9 g_e8 p_e8 k (x0, ()) =
 (cl (p_e8 (x0.2.2.2.2, ())) (g_e8 (x0.2.2.2.2, ())) fun y0 => (some ((x0.1, (x0.2.1, (x0.2.2.1, (x0.2.2.2.1, y0.1)))), ()))) := by kernel_rfl
theorem S_e9 (h_e8 : C_e8 p_e8 g_e8) {pre fn} (hev : Hq (E_e9 g_e8 p_e8) pre fn) : C_e9 pre fn := sound tysOk mixed (fn := Tryz.f163) rfl rfl rfl (.cons h_e8 .nil) _ hev
end
abbrev M_ea : Lm := [.imm L_BatSig]
abbrev R_ea : Lr := [(.own, L_BatSig)]
abbrev In_ea := Iq M_ea
abbrev Out_ea := Oq R_ea M_ea
abbrev C_ea := Cq 164 M_ea R_ea
abbrev X_ea : Ctx := ctx tys 8 (conOf []) (keepOf []) nF
abbrev E_ea := evFn X_ea Tryz.f164 R_ea M_ea
theorem ev_ea (k : Nat) (x0 : Dm (.imm L_BatSig)) : E_ea k (x0, ()) =
 (bif (List.isEmpty x0) then (agree (some ([], ())) (bif (fitL [] x0) then (some ((List.append [] x0), ())) else none)) else (bif (fitL [] x0) then (some ((List.append [] x0), ())) else none)) := by kernel_rfl
theorem S_ea  {pre fn} (hev : Hq E_ea pre fn) : C_ea pre fn := sound tysOk mixed (fn := Tryz.f164) rfl rfl rfl ConsOk.nil _ hev
abbrev M_eb : Lm := [.imm L_bool]
abbrev R_eb : Lr := [(.own, L_bool)]
abbrev In_eb := Iq M_eb
abbrev Out_eb := Oq R_eb M_eb
abbrev C_eb := Cq 165 M_eb R_eb
abbrev X_eb : Ctx := ctx tys 8 (conOf []) (keepOf []) nF
abbrev E_eb := evFn X_eb Tryz.f165 R_eb M_eb
theorem ev_eb (k : Nat) (x0 : Dm (.imm L_bool)) : E_eb k (x0, ()) =
 (bif (List.isEmpty x0) then (agree (some ([], ())) (bif (fitL [] x0) then (some ((List.append [] x0), ())) else none)) else (bif (fitL [] x0) then (some ((List.append [] x0), ())) else none)) := by kernel_rfl
theorem S_eb  {pre fn} (hev : Hq E_eb pre fn) : C_eb pre fn := sound tysOk mixed (fn := Tryz.f165) rfl rfl rfl ConsOk.nil _ hev
abbrev M_ec : Lm := [.imm S_BatBatch]
abbrev R_ec : Lr := [(.own, S_BatBatch)]
abbrev In_ec := Iq M_ec
abbrev Out_ec := Oq R_ec M_ec
abbrev C_ec := Cq 104 M_ec R_ec
section
variable (g_e9 : In_e9 -> Out_e9) (p_e9 : In_e9 -> Bool) (g_ea : In_ea -> Out_ea) (p_ea : In_ea -> Bool) (g_eb : In_eb -> Out_eb) (p_eb : In_eb -> Bool)
abbrev X_ec : Ctx := ctx tys 30 (conOf [(163, ⟨M_e9, R_e9, p_e9, g_e9⟩), (164, ⟨M_ea, R_ea, p_ea, g_ea⟩), (165, ⟨M_eb, R_eb, p_eb, g_eb⟩)]) (keepOf [(pt0, (⟨[(1, .asis), (2, .asis), (3, .own), (7, .asis), (8, .asis), (9, .asis)], [(1, .asis), (2, (.pair .asis (.pair .asis (.pair .own (.pair .asis (.pair .own .own))))))], []⟩ : Keep))]) nF
abbrev E_ec := evFn (X_ec g_e9 p_e9 g_ea p_ea g_eb p_eb) Tryz.f104 R_ec M_ec
def h0_ec (x0 : Dm (.imm S_BatBatch)) (h0 : Dn I) (h1 : Dn I) (h2 : Dn I) (h3 : Dn I) (h4 : Dn I) (h5 : (List (Dn S_TstTest))) (h6 : (List (Dn S_BatSig))) (h7 : (List (Dn Sh.bool))) (h8 : (List (Dn S_TstTest))) : St := mkS [(1, (AV.ptr 1 none [])), (2, (AV.ptr 2 none [])), (3, (AV.sref 2503 none [])), (7, (AV.val L_TstTest x0.2.2.1)), (8, (AV.val I h0)), (9, (AV.val I h1))] [(1, (Ob.box S_BatBatch (AV.val S_BatBatch x0))), (2, (Ob.box S_BatBatch (AV.pair (AV.val I h2) (AV.pair (AV.val I h3) (AV.pair (AV.sref 2502 none []) (AV.pair (AV.val I h4) (AV.pair (AV.sref 12502 none []) (AV.sref 22502 none [])))))))), (2502, (Ob.arr 56 S_TstTest h5)), (12502, (Ob.arr 58 S_BatSig h6)), (22502, (Ob.arr 4 Sh.bool h7)), (2503, (Ob.arr 56 S_TstTest h8))]
def r_ec := rounds (X_ec g_e9 p_e9 g_ea p_ea g_eb p_eb) Tryz.f104 R_ec M_ec
variable {g_e9 p_e9 g_ea p_ea g_eb p_eb}
theorem ev_ec (k : Nat) (x0 : Dm (.imm S_BatBatch)) : E_ec g_e9 p_e9 g_ea p_ea g_eb p_eb k (x0, ()) =
 (r_ec g_e9 p_e9 g_ea p_ea g_eb p_eb (x0, ()) k pt0 (h0_ec x0 (List.length x0.2.2.1 : Int) (0 : Int) (0 : Int) (0 : Int) (0 : Int) [] [] [] [])) := by kernel_rfl
theorem rd0_ec (k : Nat) (x0 : Dm (.imm S_BatBatch)) (h0 : Dn I) (h1 : Dn I) (h2 : Dn I) (h3 : Dn I) (h4 : Dn I) (h5 : (List (Dn S_TstTest))) (h6 : (List (Dn S_BatSig))) (h7 : (List (Dn Sh.bool))) (h8 : (List (Dn S_TstTest))) : r_ec g_e9 p_e9 g_ea p_ea g_eb p_eb (x0, ()) (k + 1) pt0 (h0_ec x0 h0 h1 h2 h3 h4 h5 h6 h7 h8) =
 (bif (decide (h1 < h0)) then (bif (bif (decide ((0 : Int) <= h1)) then (decide (h1 < (List.length x0.2.2.1 : Int))) else false) then (cl (p_e9 ((rdL (e := S_TstTest) x0.2.2.1 h1), ())) (g_e9 ((rdL (e := S_TstTest) x0.2.2.1 h1), ())) fun y0 => (bif (fitL h8 [(y0.1)]) then (r_ec g_e9 p_e9 g_ea p_ea g_eb p_eb (x0, ()) k pt0 (h0_ec x0 h0 (w64 (h1 + (1 : Int))) h2 h3 h4 h5 h6 h7 (List.append h8 [(y0.1)]))) else none)) else none) else (cl (p_ea (x0.2.2.2.2.1, ())) (g_ea (x0.2.2.2.2.1, ())) fun y1 => (cl (p_eb (x0.2.2.2.2.2, ())) (g_eb (x0.2.2.2.2.2, ())) fun y2 => (some ((x0.1, (x0.2.1, (h8, (x0.2.2.2.1, (y1.1, y2.1))))), ()))))) := by kernel_rfl
theorem S_ec (h_e9 : C_e9 p_e9 g_e9) (h_ea : C_ea p_ea g_ea) (h_eb : C_eb p_eb g_eb) {pre fn} (hev : Hq (E_ec g_e9 p_e9 g_ea p_ea g_eb p_eb) pre fn) : C_ec pre fn := sound tysOk mixed (fn := Tryz.f104) rfl rfl rfl (.cons h_e9 (.cons h_ea (.cons h_eb .nil))) _ hev
end
abbrev M_ed : Lm := [.imm S_HouHouse]
abbrev R_ed : Lr := [(.own, S_HouHouse)]
abbrev In_ed := Iq M_ed
abbrev Out_ed := Oq R_ed M_ed
abbrev C_ed := Cq 60 M_ed R_ed
section
variable (g_e5 : In_e5 -> Out_e5) (p_e5 : In_e5 -> Bool) (g_e7 : In_e7 -> Out_e7) (p_e7 : In_e7 -> Bool) (g_ec : In_ec -> Out_ec) (p_ec : In_ec -> Bool)
abbrev X_ed : Ctx := ctx tys 29 (conOf [(125, ⟨M_e5, R_e5, p_e5, g_e5⟩), (126, ⟨M_e7, R_e7, p_e7, g_e7⟩), (104, ⟨M_ec, R_ec, p_ec, g_ec⟩)]) (keepOf [(pt0, (⟨[(2, .asis), (3, .asis), (14, .asis), (15, .asis), (16, .asis)], [(2, (.pair .own (.pair .own .own))), (3, (.pair .own (.pair .own .own)))], []⟩ : Keep))]) nF
abbrev E_ed := evFn (X_ed g_e5 p_e5 g_e7 p_e7 g_ec p_ec) Tryz.f60 R_ed M_ed
def h0_ed (x0 : Dm (.imm S_HouHouse)) (h0 : Dn I) (h1 : Dn I) (h2 : (List (Dn I))) (h3 : (List (Dn S_SpcSpec))) (h4 : (List (Dn S_BatBatch))) (h5 : (List (Dn I))) (h6 : (List (Dn S_SpcSpec))) (h7 : (List (Dn S_BatBatch))) : St := mkS [(2, (AV.ptr 2 none [])), (3, (AV.ptr 3 none [])), (14, (AV.val L_BatBatch x0.2.2)), (15, (AV.val I h0)), (16, (AV.val I h1))] [(2, (Ob.box S_HouHouse (AV.pair (AV.sref 2502 none []) (AV.pair (AV.sref 12502 none []) (AV.sref 22502 none []))))), (2502, (Ob.arr 3 I h2)), (12502, (Ob.arr 83 S_SpcSpec h3)), (22502, (Ob.arr 45 S_BatBatch h4)), (3, (Ob.box S_HouHouse (AV.pair (AV.sref 2503 none []) (AV.pair (AV.sref 12503 none []) (AV.sref 22503 none []))))), (2503, (Ob.arr 3 I h5)), (12503, (Ob.arr 83 S_SpcSpec h6)), (22503, (Ob.arr 45 S_BatBatch h7))]
def r_ed := rounds (X_ed g_e5 p_e5 g_e7 p_e7 g_ec p_ec) Tryz.f60 R_ed M_ed
variable {g_e5 p_e5 g_e7 p_e7 g_ec p_ec}
theorem ev_ed (k : Nat) (x0 : Dm (.imm S_HouHouse)) : E_ed g_e5 p_e5 g_e7 p_e7 g_ec p_ec k (x0, ()) =
 (cl (p_e5 (x0.1, ())) (g_e5 (x0.1, ())) fun y0 => (cl (p_e7 (x0.2.1, ())) (g_e7 (x0.2.1, ())) fun y1 => (r_ed g_e5 p_e5 g_e7 p_e7 g_ec p_ec (x0, ()) k pt0 (h0_ed x0 (List.length x0.2.2 : Int) (0 : Int) [] [] [] (y0.1) (y1.1) [])))) := by kernel_rfl
theorem rd0_ed (k : Nat) (x0 : Dm (.imm S_HouHouse)) (h0 : Dn I) (h1 : Dn I) (h2 : (List (Dn I))) (h3 : (List (Dn S_SpcSpec))) (h4 : (List (Dn S_BatBatch))) (h5 : (List (Dn I))) (h6 : (List (Dn S_SpcSpec))) (h7 : (List (Dn S_BatBatch))) : r_ed g_e5 p_e5 g_e7 p_e7 g_ec p_ec (x0, ()) (k + 1) pt0 (h0_ed x0 h0 h1 h2 h3 h4 h5 h6 h7) =
 (bif (decide (h1 < h0)) then (bif (bif (decide ((0 : Int) <= h1)) then (decide (h1 < (List.length x0.2.2 : Int))) else false) then (cl (p_ec ((rdL (e := S_BatBatch) x0.2.2 h1), ())) (g_ec ((rdL (e := S_BatBatch) x0.2.2 h1), ())) fun y0 => (bif (fitL h7 [(y0.1)]) then (r_ed g_e5 p_e5 g_e7 p_e7 g_ec p_ec (x0, ()) k pt0 (h0_ed x0 h0 (w64 (h1 + (1 : Int))) h2 h3 h4 h5 h6 (List.append h7 [(y0.1)]))) else none)) else none) else (some ((h5, (h6, h7)), ()))) := by kernel_rfl
theorem S_ed (h_e5 : C_e5 p_e5 g_e5) (h_e7 : C_e7 p_e7 g_e7) (h_ec : C_ec p_ec g_ec) {pre fn} (hev : Hq (E_ed g_e5 p_e5 g_e7 p_e7 g_ec p_ec) pre fn) : C_ed pre fn := sound tysOk mixed (fn := Tryz.f60) rfl rfl rfl (.cons h_e5 (.cons h_e7 (.cons h_ec .nil))) _ hev
end
abbrev M_ee : Lm := [.imm L_int, .imm I]
abbrev R_ee : Lr := [(.imm, I)]
abbrev In_ee := Iq M_ee
abbrev Out_ee := Oq R_ee M_ee
abbrev C_ee := Cq 171 M_ee R_ee
abbrev X_ee : Ctx := ctx tys 19 (conOf []) (keepOf [(pt1, (⟨[(0, .asis), (1, .asis), (7, .asis), (8, .asis)], [], []⟩ : Keep))]) nF
abbrev E_ee := evFn X_ee Tryz.f171 R_ee M_ee
def h0_ee (x0 : Dm (.imm L_int)) (x1 : Dm (.imm I)) (h0 : Dn I) (h1 : Dn I) : St := mkS [(0, (AV.val L_int x0)), (1, (AV.val I x1)), (7, (AV.val I h0)), (8, (AV.val I h1))] []
def r_ee := rounds X_ee Tryz.f171 R_ee M_ee
theorem ev_ee (k : Nat) (x0 : Dm (.imm L_int)) (x1 : Dm (.imm I)) : E_ee k (x0, x1, ()) =
 (r_ee  (x0, x1, ()) k pt1 (h0_ee x0 x1 (List.length x0 : Int) (0 : Int))) := by kernel_rfl
theorem rd0_ee (k : Nat) (x0 : Dm (.imm L_int)) (x1 : Dm (.imm I)) (h0 : Dn I) (h1 : Dn I) : r_ee  (x0, x1, ()) (k + 1) pt1 (h0_ee x0 x1 h0 h1) =
 (bif (decide (h1 < h0)) then (bif (bif (decide ((0 : Int) <= h1)) then (decide (h1 < (List.length x0 : Int))) else false) then (bif (decide (x1 = (rdL (e := I) x0 h1))) then (some (h1, ())) else (r_ee  (x0, x1, ()) k pt1 (h0_ee x0 x1 h0 (w64 (h1 + (1 : Int)))))) else none) else (some ((-1 : Int), ()))) := by kernel_rfl
theorem S_ee  {pre fn} (hev : Hq E_ee pre fn) : C_ee pre fn := sound tysOk mixed (fn := Tryz.f171) rfl rfl rfl ConsOk.nil _ hev
abbrev M_ef : Lm := [.imm L_int, .imm I]
abbrev R_ef : Lr := [(.imm, .bool)]
abbrev In_ef := Iq M_ef
abbrev Out_ef := Oq R_ef M_ef
abbrev C_ef := Cq 114 M_ef R_ef
section
variable (g_ee : In_ee -> Out_ee) (p_ee : In_ee -> Bool)
abbrev X_ef : Ctx := ctx tys 9 (conOf [(171, ⟨M_ee, R_ee, p_ee, g_ee⟩)]) (keepOf []) nF
abbrev E_ef := evFn (X_ef g_ee p_ee) Tryz.f114 R_ef M_ef
variable {g_ee p_ee}
theorem ev_ef (k : Nat) (x0 : Dm (.imm L_int)) (x1 : Dm (.imm I)) : E_ef g_ee p_ee k (x0, x1, ()) =
 (cl (p_ee (x0, (x1, ()))) (g_ee (x0, (x1, ()))) fun y0 => (some ((decide ((0 : Int) <= y0.1)), ()))) := by kernel_rfl
theorem S_ef (h_ee : C_ee p_ee g_ee) {pre fn} (hev : Hq (E_ef g_ee p_ee) pre fn) : C_ef pre fn := sound tysOk mixed (fn := Tryz.f114) rfl rfl rfl (.cons h_ee .nil) _ hev
end
abbrev M_eg : Lm := [.imm I, .imm I]
abbrev R_eg : Lr := [(.imm, .bool)]
abbrev In_eg := Iq M_eg
abbrev Out_eg := Oq R_eg M_eg
abbrev C_eg := Cq 52 M_eg R_eg
section
variable (g_dx : In_dx -> Out_dx) (g_ef : In_ef -> Out_ef) (p_ef : In_ef -> Bool)
abbrev X_eg : Ctx := ctx tys 10 (conOf [(71, ⟨M_dx, R_dx, fun _ => true, g_dx⟩), (114, ⟨M_ef, R_ef, p_ef, g_ef⟩)]) (keepOf []) nF
abbrev E_eg := evFn (X_eg g_dx g_ef p_ef) Tryz.f52 R_eg M_eg
variable {g_dx g_ef p_ef}
theorem ev_eg (k : Nat) (x0 : Dm (.imm I)) (x1 : Dm (.imm I)) : E_eg g_dx g_ef p_ef k (x0, x1, ()) =
 (cl (p_ef ((g_dx (x1, ())).1.2.1, (x0, ()))) (g_ef ((g_dx (x1, ())).1.2.1, (x0, ()))) fun y0 => (some (y0.1, ()))) := by kernel_rfl
theorem S_eg (h_dx : C_dx (fun _ => true) g_dx) (h_ef : C_ef p_ef g_ef) {pre fn} (hev : Hq (E_eg g_dx g_ef p_ef) pre fn) : C_eg pre fn := sound tysOk mixed (fn := Tryz.f52) rfl rfl rfl (.cons h_dx (.cons h_ef .nil)) _ hev
end
abbrev M_eh : Lm := [.imm L_SpcSpec, .imm L_SpcTest]
abbrev R_eh : Lr := [(.own, L_SpcSpec), (.imm, .bool)]
abbrev In_eh := Iq M_eh
abbrev Out_eh := Oq R_eh M_eh
abbrev C_eh := Cq 127 M_eh R_eh
section
variable (g_e7 : In_e7 -> Out_e7) (p_e7 : In_e7 -> Bool) (g_cl : In_cl -> Out_cl) (p_cl : In_cl -> Bool) (g_ck : In_ck -> Out_ck) (p_ck : In_ck -> Bool) (g_e6 : In_e6 -> Out_e6) (p_e6 : In_e6 -> Bool)
abbrev X_eh : Ctx := ctx tys 29 (conOf [(126, ⟨M_e7, R_e7, p_e7, g_e7⟩), (109, ⟨M_cl, R_cl, p_cl, g_cl⟩), (74, ⟨M_ck, R_ck, p_ck, g_ck⟩), (182, ⟨M_e6, R_e6, p_e6, g_e6⟩)]) (keepOf []) nF
abbrev E_eh := evFn (X_eh g_e7 p_e7 g_cl p_cl g_ck p_ck g_e6 p_e6) Tryz.f127 R_eh M_eh
variable {g_e7 p_e7 g_cl p_cl g_ck p_ck g_e6 p_e6}
theorem ev_eh (k : Nat) (x0 : Dm (.imm L_SpcSpec)) (x1 : Dm (.imm L_SpcTest)) : E_eh g_e7 p_e7 g_cl p_cl g_ck p_ck g_e6 p_e6 k (x0, x1, ()) =
 (bif (p_e7 (x0, ())) then (bif (p_cl (x0, ())) then (bif (bif (g_cl (x0, ())).1 then false else true) then (some ((g_e7 (x0, ())).1, (false, ()))) else (bif (p_ck (x1, ())) then (bif (bif (g_ck (x1, ())).1 then false else true) then (some ((g_e7 (x0, ())).1, (false, ()))) else (bif (decide ((List.length x0 : Int) = (6 : Int))) then (some ((g_e7 (x0, ())).1, (false, ()))) else (bif (p_e6 (x1, ())) then (bif (fitL (g_e7 (x0, ())).1 [((g_e6 (x1, ())).1, (1 : Int))]) then (some ((List.append (g_e7 (x0, ())).1 [((g_e6 (x1, ())).1, (1 : Int))]), (true, ()))) else none) else none))) else none)) else none) else none) := by kernel_rfl
theorem S_eh (h_e7 : C_e7 p_e7 g_e7) (h_cl : C_cl p_cl g_cl) (h_ck : C_ck p_ck g_ck) (h_e6 : C_e6 p_e6 g_e6) {pre fn} (hev : Hq (E_eh g_e7 p_e7 g_cl p_cl g_ck p_ck g_e6 p_e6) pre fn) : C_eh pre fn := sound tysOk mixed (fn := Tryz.f127) rfl rfl rfl (.cons h_e7 (.cons h_cl (.cons h_ck (.cons h_e6 .nil)))) _ hev
end
abbrev M_ei : Lm := [.imm .bool, .imm I]
abbrev R_ei : Lr := [(.imm, I)]
abbrev In_ei := Iq M_ei
abbrev Out_ei := Oq R_ei M_ei
abbrev C_ei := Cq 128 M_ei R_ei
abbrev X_ei : Ctx := ctx tys 7 (conOf []) (keepOf []) nF
abbrev E_ei := evFn X_ei Tryz.f128 R_ei M_ei
theorem ev_ei (k : Nat) (x0 : Dm (.imm .bool)) (x1 : Dm (.imm I)) : E_ei k (x0, x1, ()) =
 (bif x0 then (some ((1 : Int), ())) else (some (x1, ()))) := by kernel_rfl
theorem S_ei  {pre fn} (hev : Hq E_ei pre fn) : C_ei pre fn := sound tysOk mixed (fn := Tryz.f128) rfl rfl rfl ConsOk.nil _ hev
abbrev M_ej : Lm := [.imm S_SpcSpec]
abbrev R_ej : Lr := [(.imm, .bool)]
abbrev In_ej := Iq M_ej
abbrev Out_ej := Oq R_ej M_ej
abbrev C_ej := Cq 116 M_ej R_ej
abbrev X_ej : Ctx := ctx tys 6 (conOf []) (keepOf []) nF
abbrev E_ej := evFn X_ej Tryz.f116 R_ej M_ej
theorem ev_ej (k : Nat) (x0 : Dm (.imm S_SpcSpec)) : E_ej k (x0, ()) =
 (some ((decide (x0.2 = (2 : Int))), ())) := by kernel_rfl
theorem S_ej  {pre fn} (hev : Hq E_ej pre fn) : C_ej pre fn := sound tysOk mixed (fn := Tryz.f116) rfl rfl rfl ConsOk.nil _ hev
abbrev M_ek : Lm := [.imm L_SpcSpec, .clo 116 []]
abbrev R_ek : Lr := [(.imm, I)]
abbrev In_ek := Iq M_ek
abbrev Out_ek := Oq R_ek M_ek
abbrev C_ek := Cq 115 M_ek R_ek
section
variable (g_ej : In_ej -> Out_ej)
abbrev X_ek : Ctx := ctx tys 19 (conOf [(116, ⟨M_ej, R_ej, fun _ => true, g_ej⟩)]) (keepOf [(pt1, (⟨[(0, .asis), (1, .asis), (7, .asis), (8, .asis)], [], []⟩ : Keep))]) nF
abbrev E_ek := evFn (X_ek g_ej) Tryz.f115 R_ek M_ek
def h0_ek (x0 : Dm (.imm L_SpcSpec)) (x1 : Dm (.clo 116 [])) (h0 : Dn I) (h1 : Dn I) : St := mkS [(0, (AV.val L_SpcSpec x0)), (1, (AV.fn 116 [])), (7, (AV.val I h0)), (8, (AV.val I h1))] []
def r_ek := rounds (X_ek g_ej) Tryz.f115 R_ek M_ek
variable {g_ej}
theorem ev_ek (k : Nat) (x0 : Dm (.imm L_SpcSpec)) (x1 : Dm (.clo 116 [])) : E_ek g_ej k (x0, x1, ()) =
 (r_ek g_ej (x0, x1, ()) k pt1 (h0_ek x0 x1 (List.length x0 : Int) (0 : Int))) := by kernel_rfl
theorem rd0_ek (k : Nat) (x0 : Dm (.imm L_SpcSpec)) (x1 : Dm (.clo 116 [])) (h0 : Dn I) (h1 : Dn I) : r_ek g_ej (x0, x1, ()) (k + 1) pt1 (h0_ek x0 x1 h0 h1) =
 (bif (decide (h1 < h0)) then (bif (bif (decide ((0 : Int) <= h1)) then (decide (h1 < (List.length x0 : Int))) else false) then (bif (g_ej ((rdL (e := S_SpcSpec) x0 h1), ())).1 then (some (h1, ())) else (r_ek g_ej (x0, x1, ()) k pt1 (h0_ek x0 x1 h0 (w64 (h1 + (1 : Int)))))) else none) else (some ((-1 : Int), ()))) := by kernel_rfl
theorem S_ek (h_ej : C_ej (fun _ => true) g_ej) {pre fn} (hev : Hq (E_ek g_ej) pre fn) : C_ek pre fn := sound tysOk mixed (fn := Tryz.f115) rfl rfl rfl (.cons h_ej .nil) _ hev
end
abbrev M_el : Lm := [.imm L_SpcSpec]
abbrev R_el : Lr := [(.imm, I)]
abbrev In_el := Iq M_el
abbrev Out_el := Oq R_el M_el
abbrev C_el := Cq 54 M_el R_el
section
variable (g_ek : In_ek -> Out_ek) (p_ek : In_ek -> Bool)
abbrev X_el : Ctx := ctx tys 5 (conOf [(115, ⟨M_ek, R_ek, p_ek, g_ek⟩)]) (keepOf []) nF
abbrev E_el := evFn (X_el g_ek p_ek) Tryz.f54 R_el M_el
variable {g_ek p_ek}
theorem ev_el (k : Nat) (x0 : Dm (.imm L_SpcSpec)) : E_el g_ek p_ek k (x0, ()) =
 (bif (p_ek (x0, ((), ()))) then (some ((g_ek (x0, ((), ()))).1, ())) else none) := by kernel_rfl
theorem S_el (h_ek : C_ek p_ek g_ek) {pre fn} (hev : Hq (E_el g_ek p_ek) pre fn) : C_el pre fn := sound tysOk mixed (fn := Tryz.f54) rfl rfl rfl (.cons h_ek .nil) _ hev
end
abbrev M_em : Lm := [.imm L_SpcSpec, .imm I]
abbrev R_em : Lr := [(.own, L_SpcSpec), (.imm, .bool)]
abbrev In_em := Iq M_em
abbrev Out_em := Oq R_em M_em
abbrev C_em := Cq 129 M_em R_em
section
variable (g_e7 : In_e7 -> Out_e7) (p_e7 : In_e7 -> Bool) (g_cl : In_cl -> Out_cl) (p_cl : In_cl -> Bool) (g_iin : In_iin -> Out_iin) (g_el : In_el -> Out_el) (p_el : In_el -> Bool)
abbrev X_em : Ctx := ctx tys 43 (conOf [(126, ⟨M_e7, R_e7, p_e7, g_e7⟩), (109, ⟨M_cl, R_cl, p_cl, g_cl⟩), (65, ⟨M_iin, R_iin, fun _ => true, g_iin⟩), (54, ⟨M_el, R_el, p_el, g_el⟩)]) (keepOf []) nF
abbrev E_em := evFn (X_em g_e7 p_e7 g_cl p_cl g_iin g_el p_el) Tryz.f129 R_em M_em
variable {g_e7 p_e7 g_cl p_cl g_iin g_el p_el}
theorem ev_em (k : Nat) (x0 : Dm (.imm L_SpcSpec)) (x1 : Dm (.imm I)) : E_em g_e7 p_e7 g_cl p_cl g_iin g_el p_el k (x0, x1, ()) =
 (bif (p_e7 (x0, ())) then (bif (p_cl (x0, ())) then (bif (bif (g_cl (x0, ())).1 then false else true) then (some ((g_e7 (x0, ())).1, (false, ()))) else (bif (bif (g_iin (x1, ((0 : Int), ((w64 ((List.length x0 : Int) - (1 : Int))), ())))).1 then false else true) then (some ((g_e7 (x0, ())).1, (false, ()))) else (bif (bif (decide ((0 : Int) <= x1)) then (decide (x1 < (List.length x0 : Int))) else false) then (bif (bif (decide ((rdL (e := S_SpcSpec) x0 x1).2 = (1 : Int))) then false else true) then (some ((g_e7 (x0, ())).1, (false, ()))) else (bif (p_el ((g_e7 (x0, ())).1, ())) then (bif (decide ((0 : Int) <= (g_el ((g_e7 (x0, ())).1, ())).1)) then (bif (bif (decide ((0 : Int) <= (g_el ((g_e7 (x0, ())).1, ())).1)) then (decide ((g_el ((g_e7 (x0, ())).1, ())).1 < (List.length (g_e7 (x0, ())).1 : Int))) else false) then (bif (bif (decide ((0 : Int) <= x1)) then (decide (x1 < (List.length (List.set (g_e7 (x0, ())).1 (Int.toNat (g_el ((g_e7 (x0, ())).1, ())).1) ((rdL (e := S_SpcSpec) (g_e7 (x0, ())).1 (g_el ((g_e7 (x0, ())).1, ())).1).1, (3 : Int))) : Int))) else false) then (some ((List.set (List.set (g_e7 (x0, ())).1 (Int.toNat (g_el ((g_e7 (x0, ())).1, ())).1) ((rdL (e := S_SpcSpec) (g_e7 (x0, ())).1 (g_el ((g_e7 (x0, ())).1, ())).1).1, (3 : Int))) (Int.toNat x1) ((rdL (e := S_SpcSpec) (List.set (g_e7 (x0, ())).1 (Int.toNat (g_el ((g_e7 (x0, ())).1, ())).1) ((rdL (e := S_SpcSpec) (g_e7 (x0, ())).1 (g_el ((g_e7 (x0, ())).1, ())).1).1, (3 : Int))) x1).1, (2 : Int))), (true, ()))) else none) else none) else (bif (bif (decide ((0 : Int) <= x1)) then (decide (x1 < (List.length (g_e7 (x0, ())).1 : Int))) else false) then (some ((List.set (g_e7 (x0, ())).1 (Int.toNat x1) ((rdL (e := S_SpcSpec) (g_e7 (x0, ())).1 x1).1, (2 : Int))), (true, ()))) else none)) else none)) else none))) else none) else none) := by kernel_rfl
theorem S_em (h_e7 : C_e7 p_e7 g_e7) (h_cl : C_cl p_cl g_cl) (h_iin : C_iin (fun _ => true) g_iin) (h_el : C_el p_el g_el) {pre fn} (hev : Hq (E_em g_e7 p_e7 g_cl p_cl g_iin g_el p_el) pre fn) : C_em pre fn := sound tysOk mixed (fn := Tryz.f129) rfl rfl rfl (.cons h_e7 (.cons h_cl (.cons h_iin (.cons h_el .nil)))) _ hev
end
abbrev M_en : Lm := [.imm S_SpcTest]
abbrev R_en : Lr := [(.own, S_TstTest)]
abbrev In_en := Iq M_en
abbrev Out_en := Oq R_en M_en
abbrev C_en := Cq 203 M_en R_en
abbrev X_en : Ctx := ctx tys 5 (conOf []) (keepOf []) nF
abbrev E_en := evFn X_en Tryz.f203 R_en M_en
theorem ev_en (k : Nat) (x0 : Dm (.imm S_SpcTest)) : E_en k (x0, ()) =
 (some ((x0, ((0 : Int), (((0 : Int), (0 : Int)), ((0 : Int), [])))), ())) := by kernel_rfl
theorem S_en  {pre fn} (hev : Hq E_en pre fn) : C_en pre fn := sound tysOk mixed (fn := Tryz.f203) rfl rfl rfl ConsOk.nil _ hev
abbrev M_eo : Lm := [.imm I, .imm L_SpcTest, .imm I]
abbrev R_eo : Lr := [(.own, S_BatBatch)]
abbrev In_eo := Iq M_eo
abbrev Out_eo := Oq R_eo M_eo
abbrev C_eo := Cq 183 M_eo R_eo
section
variable (g_iin : In_iin -> Out_iin) (g_ck : In_ck -> Out_ck) (p_ck : In_ck -> Bool) (g_en : In_en -> Out_en)
abbrev X_eo : Ctx := ctx tys 42 (conOf [(65, ⟨M_iin, R_iin, fun _ => true, g_iin⟩), (74, ⟨M_ck, R_ck, p_ck, g_ck⟩), (203, ⟨M_en, R_en, fun _ => true, g_en⟩)]) (keepOf [(pt2, (⟨[(6, .asis), (7, .asis), (27, .asis), (28, .asis), (29, .asis)], [(6, (.pair .asis (.pair .asis (.pair .own (.pair .asis (.pair .own .own)))))), (7, (.pair .asis (.pair .asis (.pair .own (.pair .asis (.pair .own .own))))))], []⟩ : Keep))]) nF
abbrev E_eo := evFn (X_eo g_iin g_ck p_ck g_en) Tryz.f183 R_eo M_eo
def h0_eo (x0 : Dm (.imm I)) (x1 : Dm (.imm L_SpcTest)) (x2 : Dm (.imm I)) (h0 : Dn I) (h1 : Dn I) (h2 : Dn I) (h3 : Dn I) (h4 : Dn I) (h5 : (List (Dn S_TstTest))) (h6 : (List (Dn S_BatSig))) (h7 : (List (Dn Sh.bool))) (h8 : Dn I) (h9 : (List (Dn S_TstTest))) (h10 : (List (Dn S_BatSig))) (h11 : (List (Dn Sh.bool))) : St := mkS [(6, (AV.ptr 6 none [])), (7, (AV.ptr 7 none [])), (27, (AV.val L_SpcTest x1)), (28, (AV.val I h0)), (29, (AV.val I h1))] [(6, (Ob.box S_BatBatch (AV.pair (AV.val I h2) (AV.pair (AV.val I h3) (AV.pair (AV.sref 2506 none []) (AV.pair (AV.val I h4) (AV.pair (AV.sref 12506 none []) (AV.sref 22506 none [])))))))), (2506, (Ob.arr 56 S_TstTest h5)), (12506, (Ob.arr 58 S_BatSig h6)), (22506, (Ob.arr 4 Sh.bool h7)), (7, (Ob.box S_BatBatch (AV.pair (AV.val I x0) (AV.pair (AV.val I x2) (AV.pair (AV.sref 2507 none []) (AV.pair (AV.val I h8) (AV.pair (AV.sref 12507 none []) (AV.sref 22507 none [])))))))), (2507, (Ob.arr 56 S_TstTest h9)), (12507, (Ob.arr 58 S_BatSig h10)), (22507, (Ob.arr 4 Sh.bool h11))]
def r_eo := rounds (X_eo g_iin g_ck p_ck g_en) Tryz.f183 R_eo M_eo
variable {g_iin g_ck p_ck g_en}
theorem ev_eo (k : Nat) (x0 : Dm (.imm I)) (x1 : Dm (.imm L_SpcTest)) (x2 : Dm (.imm I)) : E_eo g_iin g_ck p_ck g_en k (x0, x1, x2, ()) =
 (bif (bif (g_iin (x0, ((0 : Int), ((5 : Int), ())))).1 then false else true) then (some (((0 : Int), ((0 : Int), ([], ((0 : Int), ([], []))))), ())) else (cl (p_ck (x1, ())) (g_ck (x1, ())) fun y0 => (bif (bif y0.1 then false else true) then (some (((0 : Int), ((0 : Int), ([], ((0 : Int), ([], []))))), ())) else (bif (bif (g_iin (x2, ((1 : Int), ((10000 : Int), ())))).1 then false else true) then (some (((0 : Int), ((0 : Int), ([], ((0 : Int), ([], []))))), ())) else (r_eo g_iin g_ck p_ck g_en (x0, x1, x2, ()) k pt2 (h0_eo x0 x1 x2 (List.length x1 : Int) (0 : Int) (0 : Int) (0 : Int) (0 : Int) [] [] [] (1 : Int) [] [] [])))))) := by kernel_rfl
theorem rd0_eo (k : Nat) (x0 : Dm (.imm I)) (x1 : Dm (.imm L_SpcTest)) (x2 : Dm (.imm I)) (h0 : Dn I) (h1 : Dn I) (h2 : Dn I) (h3 : Dn I) (h4 : Dn I) (h5 : (List (Dn S_TstTest))) (h6 : (List (Dn S_BatSig))) (h7 : (List (Dn Sh.bool))) (h8 : Dn I) (h9 : (List (Dn S_TstTest))) (h10 : (List (Dn S_BatSig))) (h11 : (List (Dn Sh.bool))) : r_eo g_iin g_ck p_ck g_en (x0, x1, x2, ()) (k + 1) pt2 (h0_eo x0 x1 x2 h0 h1 h2 h3 h4 h5 h6 h7 h8 h9 h10 h11) =
 (bif (decide (h1 < h0)) then (bif (bif (decide ((0 : Int) <= h1)) then (decide (h1 < (List.length x1 : Int))) else false) then (bif (fitL h9 [((g_en ((rdL (e := S_SpcTest) x1 h1), ())).1)]) then (r_eo g_iin g_ck p_ck g_en (x0, x1, x2, ()) k pt2 (h0_eo x0 x1 x2 h0 (w64 (h1 + (1 : Int))) h2 h3 h4 h5 h6 h7 h8 (List.append h9 [((g_en ((rdL (e := S_SpcTest) x1 h1), ())).1)]) h10 h11)) else none) else none) else (some ((x0, (x2, (h9, (h8, (h10, h11))))), ()))) := by kernel_rfl
theorem S_eo (h_iin : C_iin (fun _ => true) g_iin) (h_ck : C_ck p_ck g_ck) (h_en : C_en (fun _ => true) g_en) {pre fn} (hev : Hq (E_eo g_iin g_ck p_ck g_en) pre fn) : C_eo pre fn := sound tysOk mixed (fn := Tryz.f183) rfl rfl rfl (.cons h_iin (.cons h_ck (.cons h_en .nil))) _ hev
end
abbrev M_ep : Lm := [.pO S_HouHouse, .imm I]
abbrev R_ep : Lr := [(.imm, I)]
abbrev In_ep := Iq M_ep
abbrev Out_ep := Oq R_ep M_ep
abbrev C_ep := Cq 130 M_ep R_ep
section
variable (g_el : In_el -> Out_el) (p_el : In_el -> Bool) (g_eo : In_eo -> Out_eo) (p_eo : In_eo -> Bool)
abbrev X_ep : Ctx := ctx tys 44 (conOf [(54, ⟨M_el, R_el, p_el, g_el⟩), (183, ⟨M_eo, R_eo, p_eo, g_eo⟩)]) (keepOf []) nF
abbrev E_ep := evFn (X_ep g_el p_el g_eo p_eo) Tryz.f130 R_ep M_ep
variable {g_el p_el g_eo p_eo}
theorem ev_ep (k : Nat) (x0 : Dm (.pO S_HouHouse)) (x1 : Dm (.imm I)) : E_ep g_el p_el g_eo p_eo k (x0, x1, ()) =
 (cl (p_el (x0.2.1, ())) (g_el (x0.2.1, ())) fun y0 => (bif (decide (y0.1 < (0 : Int))) then (some ((4 : Int), (x0, ()))) else (bif (decide ((List.length x0.2.2 : Int) = (4 : Int))) then (some ((6 : Int), (x0, ()))) else (bif (decide (x1 = (0 : Int))) then (some ((5 : Int), (x0, ()))) else (bif (bif (decide ((0 : Int) <= y0.1)) then (decide (y0.1 < (List.length x0.2.1 : Int))) else false) then (cl (p_eo (y0.1, ((rdL (e := S_SpcSpec) x0.2.1 y0.1).1, (x1, ())))) (g_eo (y0.1, ((rdL (e := S_SpcSpec) x0.2.1 y0.1).1, (x1, ())))) fun y1 => (bif (fitL x0.2.2 [(y1.1)]) then (some ((1 : Int), ((x0.1, (x0.2.1, (List.append x0.2.2 [(y1.1)]))), ()))) else none)) else none))))) := by kernel_rfl
theorem S_ep (h_el : C_el p_el g_el) (h_eo : C_eo p_eo g_eo) {pre fn} (hev : Hq (E_ep g_el p_el g_eo p_eo) pre fn) : C_ep pre fn := sound tysOk mixed (fn := Tryz.f130) rfl rfl rfl (.cons h_el (.cons h_eo .nil)) _ hev
end
abbrev M_eq : Lm := [.imm S_TstTest, .pR I]
abbrev R_eq : Lr := [(.imm, .bool)]
abbrev In_eq := Iq M_eq
abbrev Out_eq := Oq R_eq M_eq
abbrev C_eq := Cq 97 M_eq R_eq
abbrev X_eq : Ctx := ctx tys 9 (conOf []) (keepOf []) nF
abbrev E_eq := evFn X_eq Tryz.f97 R_eq M_eq
theorem ev_eq (k : Nat) (x0 : Dm (.imm S_TstTest)) (x1 : Dm (.pR I)) : E_eq k (x0, x1, ()) =
 (some ((decide (x0.1.1 = x1)), ())) := by kernel_rfl
theorem S_eq  {pre fn} (hev : Hq E_eq pre fn) : C_eq pre fn := sound tysOk mixed (fn := Tryz.f97) rfl rfl rfl ConsOk.nil _ hev
abbrev M_er : Lm := [.imm L_TstTest, .clo 97 [I]]
abbrev R_er : Lr := [(.imm, I)]
abbrev In_er := Iq M_er
abbrev Out_er := Oq R_er M_er
abbrev C_er := Cq 96 M_er R_er
section
variable (g_eq : In_eq -> Out_eq) (p_eq : In_eq -> Bool)
abbrev X_er : Ctx := ctx tys 19 (conOf [(97, ⟨M_eq, R_eq, p_eq, g_eq⟩)]) (keepOf [(pt1, (⟨[(0, .asis), (1, .asis), (7, .asis), (8, .asis)], [(1000005000, .asis)], []⟩ : Keep))]) nF
abbrev E_er := evFn (X_er g_eq p_eq) Tryz.f96 R_er M_er
def h0_er (x0 : Dm (.imm L_TstTest)) (x1 : Dm (.clo 97 [I])) (h0 : Dn I) (h1 : Dn I) : St := mkS [(0, (AV.val L_TstTest x0)), (1, (AV.fn 97 [1000005000])), (7, (AV.val I h0)), (8, (AV.val I h1))] [(1000005000, (Ob.cbox I x1.1))]
def r_er := rounds (X_er g_eq p_eq) Tryz.f96 R_er M_er
variable {g_eq p_eq}
theorem ev_er (k : Nat) (x0 : Dm (.imm L_TstTest)) (x1 : Dm (.clo 97 [I])) : E_er g_eq p_eq k (x0, x1, ()) =
 (r_er g_eq p_eq (x0, x1, ()) k pt1 (h0_er x0 x1 (List.length x0 : Int) (0 : Int))) := by kernel_rfl
theorem rd0_er (k : Nat) (x0 : Dm (.imm L_TstTest)) (x1 : Dm (.clo 97 [I])) (h0 : Dn I) (h1 : Dn I) : r_er g_eq p_eq (x0, x1, ()) (k + 1) pt1 (h0_er x0 x1 h0 h1) =
 (bif (decide (h1 < h0)) then (bif (bif (decide ((0 : Int) <= h1)) then (decide (h1 < (List.length x0 : Int))) else false) then (cl (p_eq ((rdL (e := S_TstTest) x0 h1), (x1.1, ()))) (g_eq ((rdL (e := S_TstTest) x0 h1), (x1.1, ()))) fun y0 => (bif y0.1 then (some (h1, ())) else (r_er g_eq p_eq (x0, x1, ()) k pt1 (h0_er x0 x1 h0 (w64 (h1 + (1 : Int))))))) else none) else (some ((-1 : Int), ()))) := by kernel_rfl
theorem S_er (h_eq : C_eq p_eq g_eq) {pre fn} (hev : Hq (E_er g_eq p_eq) pre fn) : C_er pre fn := sound tysOk mixed (fn := Tryz.f96) rfl rfl rfl (.cons h_eq .nil) _ hev
end
abbrev M_es : Lm := [.pO S_TstTest, .pR S_DecDec]
abbrev R_es : Lr := []
abbrev In_es := Iq M_es
abbrev Out_es := Oq R_es M_es
abbrev C_es := Cq 101 M_es R_es
abbrev X_es : Ctx := ctx tys 7 (conOf []) (keepOf []) nF
abbrev E_es := evFn X_es Tryz.f101 R_es M_es
theorem ev_es (k : Nat) (x0 : Dm (.pO S_TstTest)) (x1 : Dm (.pR S_DecDec)) : E_es k (x0, x1, ()) =
 (some ((x0.1, (x0.2.1, (x1, x0.2.2.2))), ())) := by kernel_rfl
theorem S_es  {pre fn} (hev : Hq E_es pre fn) : C_es pre fn := sound tysOk mixed (fn := Tryz.f101) rfl rfl rfl ConsOk.nil _ hev
abbrev M_et : Lm := [.imm S_TstTest, .imm I, .imm .bool, .clo 101 [S_DecDec]]
abbrev R_et : Lr := [(.own, S_TstTest), (.imm, .bool)]
abbrev In_et := Iq M_et
abbrev Out_et := Oq R_et M_et
abbrev C_et := Cq 100 M_et R_et
section
variable (g_e9 : In_e9 -> Out_e9) (p_e9 : In_e9 -> Bool) (g_cy : In_cy -> Out_cy) (p_cy : In_cy -> Bool) (g_es : In_es -> Out_es) (p_es : In_es -> Bool) (g_cx : In_cx -> Out_cx) (p_cx : In_cx -> Bool)
abbrev X_et : Ctx := ctx tys 33 (conOf [(163, ⟨M_e9, R_e9, p_e9, g_e9⟩), (88, ⟨M_cy, R_cy, p_cy, g_cy⟩), (101, ⟨M_es, R_es, p_es, g_es⟩), (156, ⟨M_cx, R_cx, p_cx, g_cx⟩)]) (keepOf []) nF
abbrev E_et := evFn (X_et g_e9 p_e9 g_cy p_cy g_es p_es g_cx p_cx) Tryz.f100 R_et M_et
variable {g_e9 p_e9 g_cy p_cy g_es p_es g_cx p_cx}
theorem ev_et (k : Nat) (x0 : Dm (.imm S_TstTest)) (x1 : Dm (.imm I)) (x2 : Dm (.imm .bool)) (x3 : Dm (.clo 101 [S_DecDec])) : E_et g_e9 p_e9 g_cy p_cy g_es p_es g_cx p_cx k (x0, x1, x2, x3, ()) =
 (cl (p_e9 (x0, ())) (g_e9 (x0, ())) fun y0 => (cl (p_cy (x0, ())) (g_cy (x0, ())) fun y1 => (bif (bif y1.1 then false else true) then (some (y0.1, (false, ()))) else (bif (bif (decide (x0.2.1 = x1)) then false else true) then (some (y0.1, (false, ()))) else (bif (bif x2 then false else true) then (some (y0.1, (false, ()))) else (cl (p_es (y0.1, (x3.1, ()))) (g_es (y0.1, (x3.1, ()))) fun y2 => (cl (p_cx (y2.1, ())) (g_cx (y2.1, ())) fun y3 => (some ((y2.1.1, (y3.1, y2.1.2.2)), (true, ())))))))))) := by kernel_rfl
theorem S_et (h_e9 : C_e9 p_e9 g_e9) (h_cy : C_cy p_cy g_cy) (h_es : C_es p_es g_es) (h_cx : C_cx p_cx g_cx) {pre fn} (hev : Hq (E_et g_e9 p_e9 g_cy p_cy g_es p_es g_cx p_cx) pre fn) : C_et pre fn := sound tysOk mixed (fn := Tryz.f100) rfl rfl rfl (.cons h_e9 (.cons h_cy (.cons h_es (.cons h_cx .nil)))) _ hev
end
abbrev M_eu : Lm := [.imm S_TstTest, .imm S_DecDec]
abbrev R_eu : Lr := [(.own, S_TstTest), (.imm, .bool)]
abbrev In_eu := Iq M_eu
abbrev Out_eu := Oq R_eu M_eu
abbrev C_eu := Cq 42 M_eu R_eu
section
variable (g_cd : In_cd -> Out_cd) (g_et : In_et -> Out_et) (p_et : In_et -> Bool)
abbrev X_eu : Ctx := ctx tys 13 (conOf [(75, ⟨M_cd, R_cd, fun _ => true, g_cd⟩), (100, ⟨M_et, R_et, p_et, g_et⟩)]) (keepOf []) nF
abbrev E_eu := evFn (X_eu g_cd g_et p_et) Tryz.f42 R_eu M_eu
variable {g_cd g_et p_et}
theorem ev_eu (k : Nat) (x0 : Dm (.imm S_TstTest)) (x1 : Dm (.imm S_DecDec)) : E_eu g_cd g_et p_et k (x0, x1, ()) =
 (cl (p_et (x0, ((0 : Int), ((g_cd (x1, ())).1, ((x1, ()), ()))))) (g_et (x0, ((0 : Int), ((g_cd (x1, ())).1, ((x1, ()), ()))))) fun y0 => (some (y0.1, (y0.2.1, ())))) := by kernel_rfl
theorem S_eu (h_cd : C_cd (fun _ => true) g_cd) (h_et : C_et p_et g_et) {pre fn} (hev : Hq (E_eu g_cd g_et p_et) pre fn) : C_eu pre fn := sound tysOk mixed (fn := Tryz.f42) rfl rfl rfl (.cons h_cd (.cons h_et .nil)) _ hev
end
abbrev M_ev : Lm := [.pO S_TstTest, .pR I]
abbrev R_ev : Lr := []
abbrev In_ev := Iq M_ev
abbrev Out_ev := Oq R_ev M_ev
abbrev C_ev := Cq 102 M_ev R_ev
abbrev X_ev : Ctx := ctx tys 7 (conOf []) (keepOf []) nF
abbrev E_ev := evFn X_ev Tryz.f102 R_ev M_ev
theorem ev_ev (k : Nat) (x0 : Dm (.pO S_TstTest)) (x1 : Dm (.pR I)) : E_ev k (x0, x1, ()) =
 (some ((x0.1, (x0.2.1, (x0.2.2.1, (x1, x0.2.2.2.2)))), ())) := by kernel_rfl
theorem S_ev  {pre fn} (hev : Hq E_ev pre fn) : C_ev pre fn := sound tysOk mixed (fn := Tryz.f102) rfl rfl rfl ConsOk.nil _ hev
abbrev M_ew : Lm := [.imm S_TstTest, .imm I, .imm .bool, .clo 102 [I]]
abbrev R_ew : Lr := [(.own, S_TstTest), (.imm, .bool)]
abbrev In_ew := Iq M_ew
abbrev Out_ew := Oq R_ew M_ew
abbrev C_ew := Cq 100 M_ew R_ew
section
variable (g_e9 : In_e9 -> Out_e9) (p_e9 : In_e9 -> Bool) (g_cy : In_cy -> Out_cy) (p_cy : In_cy -> Bool) (g_ev : In_ev -> Out_ev) (p_ev : In_ev -> Bool) (g_cx : In_cx -> Out_cx) (p_cx : In_cx -> Bool)
abbrev X_ew : Ctx := ctx tys 33 (conOf [(163, ⟨M_e9, R_e9, p_e9, g_e9⟩), (88, ⟨M_cy, R_cy, p_cy, g_cy⟩), (102, ⟨M_ev, R_ev, p_ev, g_ev⟩), (156, ⟨M_cx, R_cx, p_cx, g_cx⟩)]) (keepOf []) nF
abbrev E_ew := evFn (X_ew g_e9 p_e9 g_cy p_cy g_ev p_ev g_cx p_cx) Tryz.f100 R_ew M_ew
variable {g_e9 p_e9 g_cy p_cy g_ev p_ev g_cx p_cx}
theorem ev_ew (k : Nat) (x0 : Dm (.imm S_TstTest)) (x1 : Dm (.imm I)) (x2 : Dm (.imm .bool)) (x3 : Dm (.clo 102 [I])) : E_ew g_e9 p_e9 g_cy p_cy g_ev p_ev g_cx p_cx k (x0, x1, x2, x3, ()) =
 (cl (p_e9 (x0, ())) (g_e9 (x0, ())) fun y0 => (cl (p_cy (x0, ())) (g_cy (x0, ())) fun y1 => (bif (bif y1.1 then false else true) then (some (y0.1, (false, ()))) else (bif (bif (decide (x0.2.1 = x1)) then false else true) then (some (y0.1, (false, ()))) else (bif (bif x2 then false else true) then (some (y0.1, (false, ()))) else (cl (p_ev (y0.1, (x3.1, ()))) (g_ev (y0.1, (x3.1, ()))) fun y2 => (cl (p_cx (y2.1, ())) (g_cx (y2.1, ())) fun y3 => (some ((y2.1.1, (y3.1, y2.1.2.2)), (true, ())))))))))) := by kernel_rfl
theorem S_ew (h_e9 : C_e9 p_e9 g_e9) (h_cy : C_cy p_cy g_cy) (h_ev : C_ev p_ev g_ev) (h_cx : C_cx p_cx g_cx) {pre fn} (hev : Hq (E_ew g_e9 p_e9 g_cy p_cy g_ev p_ev g_cx p_cx) pre fn) : C_ew pre fn := sound tysOk mixed (fn := Tryz.f100) rfl rfl rfl (.cons h_e9 (.cons h_cy (.cons h_ev (.cons h_cx .nil)))) _ hev
end
abbrev M_ex : Lm := [.imm S_TstTest, .imm I]
abbrev R_ex : Lr := [(.own, S_TstTest), (.imm, .bool)]
abbrev In_ex := Iq M_ex
abbrev Out_ex := Oq R_ex M_ex
abbrev C_ex := Cq 43 M_ex R_ex
section
variable (g_iin : In_iin -> Out_iin) (g_ew : In_ew -> Out_ew) (p_ew : In_ew -> Bool)
abbrev X_ex : Ctx := ctx tys 13 (conOf [(65, ⟨M_iin, R_iin, fun _ => true, g_iin⟩), (100, ⟨M_ew, R_ew, p_ew, g_ew⟩)]) (keepOf []) nF
abbrev E_ex := evFn (X_ex g_iin g_ew p_ew) Tryz.f43 R_ex M_ex
variable {g_iin g_ew p_ew}
theorem ev_ex (k : Nat) (x0 : Dm (.imm S_TstTest)) (x1 : Dm (.imm I)) : E_ex g_iin g_ew p_ew k (x0, x1, ()) =
 (cl (p_ew (x0, ((1 : Int), ((g_iin (x1, ((1 : Int), ((3 : Int), ())))).1, ((x1, ()), ()))))) (g_ew (x0, ((1 : Int), ((g_iin (x1, ((1 : Int), ((3 : Int), ())))).1, ((x1, ()), ()))))) fun y0 => (some (y0.1, (y0.2.1, ())))) := by kernel_rfl
theorem S_ex (h_iin : C_iin (fun _ => true) g_iin) (h_ew : C_ew p_ew g_ew) {pre fn} (hev : Hq (E_ex g_iin g_ew p_ew) pre fn) : C_ex pre fn := sound tysOk mixed (fn := Tryz.f43) rfl rfl rfl (.cons h_iin (.cons h_ew .nil)) _ hev
end
abbrev M_ey : Lm := [.pO S_TstTest, .pR S_DecDec]
abbrev R_ey : Lr := []
abbrev In_ey := Iq M_ey
abbrev Out_ey := Oq R_ey M_ey
abbrev C_ey := Cq 103 M_ey R_ey
abbrev X_ey : Ctx := ctx tys 13 (conOf []) (keepOf []) nF
abbrev E_ey := evFn X_ey Tryz.f103 R_ey M_ey
theorem ev_ey (k : Nat) (x0 : Dm (.pO S_TstTest)) (x1 : Dm (.pR S_DecDec)) : E_ey k (x0, x1, ()) =
 (bif (fitL x0.2.2.2.2 [x1]) then (some ((x0.1, (x0.2.1, (x0.2.2.1, (x0.2.2.2.1, (List.append x0.2.2.2.2 [x1]))))), ())) else none) := by kernel_rfl
theorem S_ey  {pre fn} (hev : Hq E_ey pre fn) : C_ey pre fn := sound tysOk mixed (fn := Tryz.f103) rfl rfl rfl ConsOk.nil _ hev
abbrev M_ez : Lm := [.imm S_TstTest, .imm I, .imm .bool, .clo 103 [S_DecDec]]
abbrev R_ez : Lr := [(.own, S_TstTest), (.imm, .bool)]
abbrev In_ez := Iq M_ez
abbrev Out_ez := Oq R_ez M_ez
abbrev C_ez := Cq 100 M_ez R_ez
section
variable (g_e9 : In_e9 -> Out_e9) (p_e9 : In_e9 -> Bool) (g_cy : In_cy -> Out_cy) (p_cy : In_cy -> Bool) (g_ey : In_ey -> Out_ey) (p_ey : In_ey -> Bool) (g_cx : In_cx -> Out_cx) (p_cx : In_cx -> Bool)
abbrev X_ez : Ctx := ctx tys 33 (conOf [(163, ⟨M_e9, R_e9, p_e9, g_e9⟩), (88, ⟨M_cy, R_cy, p_cy, g_cy⟩), (103, ⟨M_ey, R_ey, p_ey, g_ey⟩), (156, ⟨M_cx, R_cx, p_cx, g_cx⟩)]) (keepOf []) nF
abbrev E_ez := evFn (X_ez g_e9 p_e9 g_cy p_cy g_ey p_ey g_cx p_cx) Tryz.f100 R_ez M_ez
variable {g_e9 p_e9 g_cy p_cy g_ey p_ey g_cx p_cx}
theorem ev_ez (k : Nat) (x0 : Dm (.imm S_TstTest)) (x1 : Dm (.imm I)) (x2 : Dm (.imm .bool)) (x3 : Dm (.clo 103 [S_DecDec])) : E_ez g_e9 p_e9 g_cy p_cy g_ey p_ey g_cx p_cx k (x0, x1, x2, x3, ()) =
 (cl (p_e9 (x0, ())) (g_e9 (x0, ())) fun y0 => (cl (p_cy (x0, ())) (g_cy (x0, ())) fun y1 => (bif (bif y1.1 then false else true) then (some (y0.1, (false, ()))) else (bif (bif (decide (x0.2.1 = x1)) then false else true) then (some (y0.1, (false, ()))) else (bif (bif x2 then false else true) then (some (y0.1, (false, ()))) else (cl (p_ey (y0.1, (x3.1, ()))) (g_ey (y0.1, (x3.1, ()))) fun y2 => (cl (p_cx (y2.1, ())) (g_cx (y2.1, ())) fun y3 => (some ((y2.1.1, (y3.1, y2.1.2.2)), (true, ())))))))))) := by kernel_rfl
theorem S_ez (h_e9 : C_e9 p_e9 g_e9) (h_cy : C_cy p_cy g_cy) (h_ey : C_ey p_ey g_ey) (h_cx : C_cx p_cx g_cx) {pre fn} (hev : Hq (E_ez g_e9 p_e9 g_cy p_cy g_ey p_ey g_cx p_cx) pre fn) : C_ez pre fn := sound tysOk mixed (fn := Tryz.f100) rfl rfl rfl (.cons h_e9 (.cons h_cy (.cons h_ey (.cons h_cx .nil)))) _ hev
end
abbrev M_f0 : Lm := [.imm S_TstTest, .imm S_DecDec]
abbrev R_f0 : Lr := [(.own, S_TstTest), (.imm, .bool)]
abbrev In_f0 := Iq M_f0
abbrev Out_f0 := Oq R_f0 M_f0
abbrev C_f0 := Cq 44 M_f0 R_f0
section
variable (g_cd : In_cd -> Out_cd) (g_ez : In_ez -> Out_ez) (p_ez : In_ez -> Bool)
abbrev X_f0 : Ctx := ctx tys 13 (conOf [(75, ⟨M_cd, R_cd, fun _ => true, g_cd⟩), (100, ⟨M_ez, R_ez, p_ez, g_ez⟩)]) (keepOf []) nF
abbrev E_f0 := evFn (X_f0 g_cd g_ez p_ez) Tryz.f44 R_f0 M_f0
variable {g_cd g_ez p_ez}
theorem ev_f0 (k : Nat) (x0 : Dm (.imm S_TstTest)) (x1 : Dm (.imm S_DecDec)) : E_f0 g_cd g_ez p_ez k (x0, x1, ()) =
 (cl (p_ez (x0, ((2 : Int), ((g_cd (x1, ())).1, ((x1, ()), ()))))) (g_ez (x0, ((2 : Int), ((g_cd (x1, ())).1, ((x1, ()), ()))))) fun y0 => (some (y0.1, (y0.2.1, ())))) := by kernel_rfl
theorem S_f0 (h_cd : C_cd (fun _ => true) g_cd) (h_ez : C_ez p_ez g_ez) {pre fn} (hev : Hq (E_f0 g_cd g_ez p_ez) pre fn) : C_f0 pre fn := sound tysOk mixed (fn := Tryz.f44) rfl rfl rfl (.cons h_cd (.cons h_ez .nil)) _ hev
end
abbrev M_f1 : Lm := [.pO S_BatBatch, .pR I, .pR I, .pR S_DecDec, .pR I]
abbrev R_f1 : Lr := [(.imm, .bool)]
abbrev In_f1 := Iq M_f1
abbrev Out_f1 := Oq R_f1 M_f1
abbrev C_f1 := Cq 95 M_f1 R_f1
section
variable (g_er : In_er -> Out_er) (p_er : In_er -> Bool) (g_eu : In_eu -> Out_eu) (p_eu : In_eu -> Bool) (g_ex : In_ex -> Out_ex) (p_ex : In_ex -> Bool) (g_f0 : In_f0 -> Out_f0) (p_f0 : In_f0 -> Bool)
abbrev X_f1 : Ctx := ctx tys 62 (conOf [(96, ⟨M_er, R_er, p_er, g_er⟩), (42, ⟨M_eu, R_eu, p_eu, g_eu⟩), (43, ⟨M_ex, R_ex, p_ex, g_ex⟩), (44, ⟨M_f0, R_f0, p_f0, g_f0⟩)]) (keepOf []) nF
abbrev E_f1 := evFn (X_f1 g_er p_er g_eu p_eu g_ex p_ex g_f0 p_f0) Tryz.f95 R_f1 M_f1
variable {g_er p_er g_eu p_eu g_ex p_ex g_f0 p_f0}
theorem ev_f1 (k : Nat) (x0 : Dm (.pO S_BatBatch)) (x1 : Dm (.pR I)) (x2 : Dm (.pR I)) (x3 : Dm (.pR S_DecDec)) (x4 : Dm (.pR I)) : E_f1 g_er p_er g_eu p_eu g_ex p_ex g_f0 p_f0 k (x0, x1, x2, x3, x4, ()) =
 (cl (p_er (x0.2.2.1, ((x1, ()), ()))) (g_er (x0.2.2.1, ((x1, ()), ()))) fun y0 => (lt (rdL (e := S_TstTest) x0.2.2.1 y0.1) fun s0 => (bif (decide (y0.1 < (0 : Int))) then (some (false, (x0, ()))) else (bif (bif (decide ((0 : Int) <= y0.1)) then (decide (y0.1 < (List.length x0.2.2.1 : Int))) else false) then (bif (decide (x2 = (1 : Int))) then (cl (p_eu (s0, (x3, ()))) (g_eu (s0, (x3, ()))) fun y1 => (some (y1.2.1, ((x0.1, (x0.2.1, ((List.set x0.2.2.1 (Int.toNat y0.1) y1.1), x0.2.2.2))), ())))) else (bif (decide (x2 = (2 : Int))) then (cl (p_ex (s0, (x4, ()))) (g_ex (s0, (x4, ()))) fun y2 => (some (y2.2.1, ((x0.1, (x0.2.1, ((List.set x0.2.2.1 (Int.toNat y0.1) y2.1), x0.2.2.2))), ())))) else (bif (decide (x2 = (3 : Int))) then (cl (p_f0 (s0, (x3, ()))) (g_f0 (s0, (x3, ()))) fun y3 => (some (y3.2.1, ((x0.1, (x0.2.1, ((List.set x0.2.2.1 (Int.toNat y0.1) y3.1), x0.2.2.2))), ())))) else (some (false, (x0, ())))))) else none)))) := by kernel_rfl
theorem S_f1 (h_er : C_er p_er g_er) (h_eu : C_eu p_eu g_eu) (h_ex : C_ex p_ex g_ex) (h_f0 : C_f0 p_f0 g_f0) {pre fn} (hev : Hq (E_f1 g_er p_er g_eu p_eu g_ex p_ex g_f0 p_f0) pre fn) : C_f1 pre fn := sound tysOk mixed (fn := Tryz.f95) rfl rfl rfl (.cons h_er (.cons h_eu (.cons h_ex (.cons h_f0 .nil)))) _ hev
end
abbrev M_f2 : Lm := [.imm S_BatBatch, .clo 95 [I, I, S_DecDec, I]]
abbrev R_f2 : Lr := [(.own, S_BatBatch), (.imm, .bool)]
abbrev In_f2 := Iq M_f2
abbrev Out_f2 := Oq R_f2 M_f2
abbrev C_f2 := Cq 83 M_f2 R_f2
section
variable (g_ec : In_ec -> Out_ec) (p_ec : In_ec -> Bool) (g_dh : In_dh -> Out_dh) (p_dh : In_dh -> Bool) (g_f1 : In_f1 -> Out_f1) (p_f1 : In_f1 -> Bool)
abbrev X_f2 : Ctx := ctx tys 23 (conOf [(104, ⟨M_ec, R_ec, p_ec, g_ec⟩), (34, ⟨M_dh, R_dh, p_dh, g_dh⟩), (95, ⟨M_f1, R_f1, p_f1, g_f1⟩)]) (keepOf []) nF
abbrev E_f2 := evFn (X_f2 g_ec p_ec g_dh p_dh g_f1 p_f1) Tryz.f83 R_f2 M_f2
variable {g_ec p_ec g_dh p_dh g_f1 p_f1}
theorem ev_f2 (k : Nat) (x0 : Dm (.imm S_BatBatch)) (x1 : Dm (.clo 95 [I, I, S_DecDec, I])) : E_f2 g_ec p_ec g_dh p_dh g_f1 p_f1 k (x0, x1, ()) =
 (cl (p_ec (x0, ())) (g_ec (x0, ())) fun y0 => (cl (p_dh (x0, ())) (g_dh (x0, ())) fun y1 => (bif (bif y1.1 then false else true) then (some (y0.1, (false, ()))) else (bif (bif (decide (x0.2.2.2.1 = (1 : Int))) then false else true) then (some (y0.1, (false, ()))) else (cl (p_f1 (y0.1, (x1.1, (x1.2.1, (x1.2.2.1, (x1.2.2.2.1, ())))))) (g_f1 (y0.1, (x1.1, (x1.2.1, (x1.2.2.1, (x1.2.2.2.1, ())))))) fun y2 => (some (y2.2.1, (y2.1, ())))))))) := by kernel_rfl
theorem S_f2 (h_ec : C_ec p_ec g_ec) (h_dh : C_dh p_dh g_dh) (h_f1 : C_f1 p_f1 g_f1) {pre fn} (hev : Hq (E_f2 g_ec p_ec g_dh p_dh g_f1 p_f1) pre fn) : C_f2 pre fn := sound tysOk mixed (fn := Tryz.f83) rfl rfl rfl (.cons h_ec (.cons h_dh (.cons h_f1 .nil))) _ hev
end
abbrev M_f3 : Lm := [.imm S_BatBatch, .imm I, .imm I, .imm S_DecDec, .imm I]
abbrev R_f3 : Lr := [(.own, S_BatBatch), (.imm, .bool)]
abbrev In_f3 := Iq M_f3
abbrev Out_f3 := Oq R_f3 M_f3
abbrev C_f3 := Cq 39 M_f3 R_f3
section
variable (g_f2 : In_f2 -> Out_f2) (p_f2 : In_f2 -> Bool)
abbrev X_f3 : Ctx := ctx tys 17 (conOf [(83, ⟨M_f2, R_f2, p_f2, g_f2⟩)]) (keepOf []) nF
abbrev E_f3 := evFn (X_f3 g_f2 p_f2) Tryz.f39 R_f3 M_f3
variable {g_f2 p_f2}
theorem ev_f3 (k : Nat) (x0 : Dm (.imm S_BatBatch)) (x1 : Dm (.imm I)) (x2 : Dm (.imm I)) (x3 : Dm (.imm S_DecDec)) (x4 : Dm (.imm I)) : E_f3 g_f2 p_f2 k (x0, x1, x2, x3, x4, ()) =
 (cl (p_f2 (x0, ((x1, (x2, (x3, (x4, ())))), ()))) (g_f2 (x0, ((x1, (x2, (x3, (x4, ())))), ()))) fun y0 => (some (y0.1, (y0.2.1, ())))) := by kernel_rfl
theorem S_f3 (h_f2 : C_f2 p_f2 g_f2) {pre fn} (hev : Hq (E_f3 g_f2 p_f2) pre fn) : C_f3 pre fn := sound tysOk mixed (fn := Tryz.f39) rfl rfl rfl (.cons h_f2 .nil) _ hev
end
abbrev M_f4 : Lm := [.pO S_BatBatch, .pR .bool, .pR I]
abbrev R_f4 : Lr := [(.imm, .bool)]
abbrev In_f4 := Iq M_f4
abbrev Out_f4 := Oq R_f4 M_f4
abbrev C_f4 := Cq 92 M_f4 R_f4
section
variable (g_iin : In_iin -> Out_iin)
abbrev X_f4 : Ctx := ctx tys 55 (conOf [(65, ⟨M_iin, R_iin, fun _ => true, g_iin⟩)]) (keepOf []) nF
abbrev E_f4 := evFn (X_f4 g_iin) Tryz.f92 R_f4 M_f4
variable {g_iin}
theorem ev_f4 (k : Nat) (x0 : Dm (.pO S_BatBatch)) (x1 : Dm (.pR .bool)) (x2 : Dm (.pR I)) : E_f4 g_iin k (x0, x1, x2, ()) =
 (bif x1 then (bif (decide (x2 = (List.length x0.2.2.2.2.2 : Int))) then (bif (decide (x2 < (3 : Int))) then (bif (fitL x0.2.2.2.2.2 [true]) then (some (true, ((x0.1, (x0.2.1, (x0.2.2.1, (x0.2.2.2.1, (x0.2.2.2.2.1, (List.append x0.2.2.2.2.2 [true])))))), ()))) else none) else (bif (bif x1 then false else true) then (bif (g_iin (x2, ((0 : Int), ((w64 ((List.length x0.2.2.2.2.2 : Int) - (1 : Int))), ())))).1 then (bif (bif (decide ((0 : Int) <= x2)) then (decide (x2 < (List.length x0.2.2.2.2.2 : Int))) else false) then (bif (rdL (e := Sh.bool) x0.2.2.2.2.2 x2) then (bif (bif (decide ((0 : Int) <= x2)) then (decide (x2 < (List.length x0.2.2.2.2.2 : Int))) else false) then (some (true, ((x0.1, (x0.2.1, (x0.2.2.1, (x0.2.2.2.1, (x0.2.2.2.2.1, (List.set x0.2.2.2.2.2 (Int.toNat x2) false)))))), ()))) else none) else (some (false, (x0, ())))) else none) else (some (false, (x0, ())))) else (some (false, (x0, ()))))) else (bif (bif x1 then false else true) then (bif (g_iin (x2, ((0 : Int), ((w64 ((List.length x0.2.2.2.2.2 : Int) - (1 : Int))), ())))).1 then (bif (bif (decide ((0 : Int) <= x2)) then (decide (x2 < (List.length x0.2.2.2.2.2 : Int))) else false) then (bif (rdL (e := Sh.bool) x0.2.2.2.2.2 x2) then (bif (bif (decide ((0 : Int) <= x2)) then (decide (x2 < (List.length x0.2.2.2.2.2 : Int))) else false) then (some (true, ((x0.1, (x0.2.1, (x0.2.2.1, (x0.2.2.2.1, (x0.2.2.2.2.1, (List.set x0.2.2.2.2.2 (Int.toNat x2) false)))))), ()))) else none) else (some (false, (x0, ())))) else none) else (some (false, (x0, ())))) else (some (false, (x0, ()))))) else (bif (bif x1 then false else true) then (bif (g_iin (x2, ((0 : Int), ((w64 ((List.length x0.2.2.2.2.2 : Int) - (1 : Int))), ())))).1 then (bif (bif (decide ((0 : Int) <= x2)) then (decide (x2 < (List.length x0.2.2.2.2.2 : Int))) else false) then (bif (rdL (e := Sh.bool) x0.2.2.2.2.2 x2) then (bif (bif (decide ((0 : Int) <= x2)) then (decide (x2 < (List.length x0.2.2.2.2.2 : Int))) else false) then (some (true, ((x0.1, (x0.2.1, (x0.2.2.1, (x0.2.2.2.1, (x0.2.2.2.2.1, (List.set x0.2.2.2.2.2 (Int.toNat x2) false)))))), ()))) else none) else (some (false, (x0, ())))) else none) else (some (false, (x0, ())))) else (some (false, (x0, ()))))) := by kernel_rfl
theorem S_f4 (h_iin : C_iin (fun _ => true) g_iin) {pre fn} (hev : Hq (E_f4 g_iin) pre fn) : C_f4 pre fn := sound tysOk mixed (fn := Tryz.f92) rfl rfl rfl (.cons h_iin .nil) _ hev
end
abbrev M_f5 : Lm := [.imm S_BatBatch, .clo 92 [.bool, I]]
abbrev R_f5 : Lr := [(.own, S_BatBatch), (.imm, .bool)]
abbrev In_f5 := Iq M_f5
abbrev Out_f5 := Oq R_f5 M_f5
abbrev C_f5 := Cq 83 M_f5 R_f5
section
variable (g_ec : In_ec -> Out_ec) (p_ec : In_ec -> Bool) (g_dh : In_dh -> Out_dh) (p_dh : In_dh -> Bool) (g_f4 : In_f4 -> Out_f4) (p_f4 : In_f4 -> Bool)
abbrev X_f5 : Ctx := ctx tys 23 (conOf [(104, ⟨M_ec, R_ec, p_ec, g_ec⟩), (34, ⟨M_dh, R_dh, p_dh, g_dh⟩), (92, ⟨M_f4, R_f4, p_f4, g_f4⟩)]) (keepOf []) nF
abbrev E_f5 := evFn (X_f5 g_ec p_ec g_dh p_dh g_f4 p_f4) Tryz.f83 R_f5 M_f5
variable {g_ec p_ec g_dh p_dh g_f4 p_f4}
theorem ev_f5 (k : Nat) (x0 : Dm (.imm S_BatBatch)) (x1 : Dm (.clo 92 [.bool, I])) : E_f5 g_ec p_ec g_dh p_dh g_f4 p_f4 k (x0, x1, ()) =
 (cl (p_ec (x0, ())) (g_ec (x0, ())) fun y0 => (cl (p_dh (x0, ())) (g_dh (x0, ())) fun y1 => (bif (bif y1.1 then false else true) then (some (y0.1, (false, ()))) else (bif (bif (decide (x0.2.2.2.1 = (1 : Int))) then false else true) then (some (y0.1, (false, ()))) else (cl (p_f4 (y0.1, (x1.1, (x1.2.1, ())))) (g_f4 (y0.1, (x1.1, (x1.2.1, ())))) fun y2 => (some (y2.2.1, (y2.1, ())))))))) := by kernel_rfl
theorem S_f5 (h_ec : C_ec p_ec g_ec) (h_dh : C_dh p_dh g_dh) (h_f4 : C_f4 p_f4 g_f4) {pre fn} (hev : Hq (E_f5 g_ec p_ec g_dh p_dh g_f4 p_f4) pre fn) : C_f5 pre fn := sound tysOk mixed (fn := Tryz.f83) rfl rfl rfl (.cons h_ec (.cons h_dh (.cons h_f4 .nil))) _ hev
end
abbrev M_f6 : Lm := [.imm S_BatBatch, .imm I, .imm .bool]
abbrev R_f6 : Lr := [(.own, S_BatBatch), (.imm, .bool)]
abbrev In_f6 := Iq M_f6
abbrev Out_f6 := Oq R_f6 M_f6
abbrev C_f6 := Cq 36 M_f6 R_f6
section
variable (g_f5 : In_f5 -> Out_f5) (p_f5 : In_f5 -> Bool)
abbrev X_f6 : Ctx := ctx tys 13 (conOf [(83, ⟨M_f5, R_f5, p_f5, g_f5⟩)]) (keepOf []) nF
abbrev E_f6 := evFn (X_f6 g_f5 p_f5) Tryz.f36 R_f6 M_f6
variable {g_f5 p_f5}
theorem ev_f6 (k : Nat) (x0 : Dm (.imm S_BatBatch)) (x1 : Dm (.imm I)) (x2 : Dm (.imm .bool)) : E_f6 g_f5 p_f5 k (x0, x1, x2, ()) =
 (cl (p_f5 (x0, ((x2, (x1, ())), ()))) (g_f5 (x0, ((x2, (x1, ())), ()))) fun y0 => (some (y0.1, (y0.2.1, ())))) := by kernel_rfl
theorem S_f6 (h_f5 : C_f5 p_f5 g_f5) {pre fn} (hev : Hq (E_f6 g_f5 p_f5) pre fn) : C_f6 pre fn := sound tysOk mixed (fn := Tryz.f36) rfl rfl rfl (.cons h_f5 .nil) _ hev
end
abbrev M_f7 : Lm := [.pO S_BatBatch, .pR I, .pR I, .pR S_BatBatch]
abbrev R_f7 : Lr := [(.imm, .bool)]
abbrev In_f7 := Iq M_f7
abbrev Out_f7 := Oq R_f7 M_f7
abbrev C_f7 := Cq 84 M_f7 R_f7
section
variable (g_cz : In_cz -> Out_cz) (g_d0 : In_d0 -> Out_d0) (g_db : In_db -> Out_db) (p_db : In_db -> Bool)
abbrev X_f7 : Ctx := ctx tys 36 (conOf [(77, ⟨M_cz, R_cz, fun _ => true, g_cz⟩), (85, ⟨M_d0, R_d0, fun _ => true, g_d0⟩), (29, ⟨M_db, R_db, p_db, g_db⟩)]) (keepOf []) nF
abbrev E_f7 := evFn (X_f7 g_cz g_d0 g_db p_db) Tryz.f84 R_f7 M_f7
variable {g_cz g_d0 g_db p_db}
theorem ev_f7 (k : Nat) (x0 : Dm (.pO S_BatBatch)) (x1 : Dm (.pR I)) (x2 : Dm (.pR I)) (x3 : Dm (.pR S_BatBatch)) : E_f7 g_cz g_d0 g_db p_db k (x0, x1, x2, x3, ()) =
 (bif (bif (g_cz (x1, ())).1 then false else true) then (some (false, (x0, ()))) else (bif (bif (g_d0 (x2, ())).1 then false else true) then (some (false, (x0, ()))) else (bif (decide ((List.length x0.2.2.2.2.1 : Int) = (6 : Int))) then (some (false, (x0, ()))) else (cl (p_db (x3, ())) (g_db (x3, ())) fun y0 => (bif (fitL x0.2.2.2.2.1 [(x1, (x2, y0.1))]) then (some (true, ((x0.1, (x0.2.1, (x0.2.2.1, (x0.2.2.2.1, ((List.append x0.2.2.2.2.1 [(x1, (x2, y0.1))]), x0.2.2.2.2.2))))), ()))) else none))))) := by kernel_rfl
theorem S_f7 (h_cz : C_cz (fun _ => true) g_cz) (h_d0 : C_d0 (fun _ => true) g_d0) (h_db : C_db p_db g_db) {pre fn} (hev : Hq (E_f7 g_cz g_d0 g_db p_db) pre fn) : C_f7 pre fn := sound tysOk mixed (fn := Tryz.f84) rfl rfl rfl (.cons h_cz (.cons h_d0 (.cons h_db .nil))) _ hev
end
abbrev M_f8 : Lm := [.imm S_BatBatch, .clo 84 [I, I, S_BatBatch]]
abbrev R_f8 : Lr := [(.own, S_BatBatch), (.imm, .bool)]
abbrev In_f8 := Iq M_f8
abbrev Out_f8 := Oq R_f8 M_f8
abbrev C_f8 := Cq 83 M_f8 R_f8
section
variable (g_ec : In_ec -> Out_ec) (p_ec : In_ec -> Bool) (g_dh : In_dh -> Out_dh) (p_dh : In_dh -> Bool) (g_f7 : In_f7 -> Out_f7) (p_f7 : In_f7 -> Bool)
abbrev X_f8 : Ctx := ctx tys 23 (conOf [(104, ⟨M_ec, R_ec, p_ec, g_ec⟩), (34, ⟨M_dh, R_dh, p_dh, g_dh⟩), (84, ⟨M_f7, R_f7, p_f7, g_f7⟩)]) (keepOf []) nF
abbrev E_f8 := evFn (X_f8 g_ec p_ec g_dh p_dh g_f7 p_f7) Tryz.f83 R_f8 M_f8
variable {g_ec p_ec g_dh p_dh g_f7 p_f7}
theorem ev_f8 (k : Nat) (x0 : Dm (.imm S_BatBatch)) (x1 : Dm (.clo 84 [I, I, S_BatBatch])) : E_f8 g_ec p_ec g_dh p_dh g_f7 p_f7 k (x0, x1, ()) =
 (cl (p_ec (x0, ())) (g_ec (x0, ())) fun y0 => (cl (p_dh (x0, ())) (g_dh (x0, ())) fun y1 => (bif (bif y1.1 then false else true) then (some (y0.1, (false, ()))) else (bif (bif (decide (x0.2.2.2.1 = (1 : Int))) then false else true) then (some (y0.1, (false, ()))) else (cl (p_f7 (y0.1, (x1.1, (x1.2.1, (x1.2.2.1, ()))))) (g_f7 (y0.1, (x1.1, (x1.2.1, (x1.2.2.1, ()))))) fun y2 => (some (y2.2.1, (y2.1, ())))))))) := by kernel_rfl
theorem S_f8 (h_ec : C_ec p_ec g_ec) (h_dh : C_dh p_dh g_dh) (h_f7 : C_f7 p_f7 g_f7) {pre fn} (hev : Hq (E_f8 g_ec p_ec g_dh p_dh g_f7 p_f7) pre fn) : C_f8 pre fn := sound tysOk mixed (fn := Tryz.f83) rfl rfl rfl (.cons h_ec (.cons h_dh (.cons h_f7 .nil))) _ hev
end
abbrev M_f9 : Lm := [.imm S_BatBatch, .imm I, .imm I]
abbrev R_f9 : Lr := [(.own, S_BatBatch), (.imm, .bool)]
abbrev In_f9 := Iq M_f9
abbrev Out_f9 := Oq R_f9 M_f9
abbrev C_f9 := Cq 31 M_f9 R_f9
section
variable (g_f8 : In_f8 -> Out_f8) (p_f8 : In_f8 -> Bool)
abbrev X_f9 : Ctx := ctx tys 13 (conOf [(83, ⟨M_f8, R_f8, p_f8, g_f8⟩)]) (keepOf []) nF
abbrev E_f9 := evFn (X_f9 g_f8 p_f8) Tryz.f31 R_f9 M_f9
variable {g_f8 p_f8}
theorem ev_f9 (k : Nat) (x0 : Dm (.imm S_BatBatch)) (x1 : Dm (.imm I)) (x2 : Dm (.imm I)) : E_f9 g_f8 p_f8 k (x0, x1, x2, ()) =
 (cl (p_f8 (x0, ((x1, (x2, (x0, ()))), ()))) (g_f8 (x0, ((x1, (x2, (x0, ()))), ()))) fun y0 => (some (y0.1, (y0.2.1, ())))) := by kernel_rfl
theorem S_f9 (h_f8 : C_f8 p_f8 g_f8) {pre fn} (hev : Hq (E_f9 g_f8 p_f8) pre fn) : C_f9 pre fn := sound tysOk mixed (fn := Tryz.f31) rfl rfl rfl (.cons h_f8 .nil) _ hev
end
abbrev M_fa : Lm := [.imm S_BatBatch, .imm I]
abbrev R_fa : Lr := [(.own, S_BatBatch), (.imm, .bool)]
abbrev In_fa := Iq M_fa
abbrev Out_fa := Oq R_fa M_fa
abbrev C_fa := Cq 45 M_fa R_fa
section
variable (g_ec : In_ec -> Out_ec) (p_ec : In_ec -> Bool) (g_dg : In_dg -> Out_dg) (p_dg : In_dg -> Bool) (g_dh : In_dh -> Out_dh) (p_dh : In_dh -> Bool)
abbrev X_fa : Ctx := ctx tys 45 (conOf [(104, ⟨M_ec, R_ec, p_ec, g_ec⟩), (79, ⟨M_dg, R_dg, p_dg, g_dg⟩), (34, ⟨M_dh, R_dh, p_dh, g_dh⟩)]) (keepOf []) nF
abbrev E_fa := evFn (X_fa g_ec p_ec g_dg p_dg g_dh p_dh) Tryz.f45 R_fa M_fa
variable {g_ec p_ec g_dg p_dg g_dh p_dh}
theorem ev_fa (k : Nat) (x0 : Dm (.imm S_BatBatch)) (x1 : Dm (.imm I)) : E_fa g_ec p_ec g_dg p_dg g_dh p_dh k (x0, x1, ()) =
 (cl (p_ec (x0, ())) (g_ec (x0, ())) fun y0 => (bif (decide (x0.2.2.2.1 = (1 : Int))) then (bif (decide (x1 = (3 : Int))) then (cl (p_dh (x0, ())) (g_dh (x0, ())) fun y1 => (bif (bif y1.1 then false else true) then (some (y0.1, (false, ()))) else (some ((y0.1.1, (y0.1.2.1, (y0.1.2.2.1, (x1, y0.1.2.2.2.2)))), (true, ()))))) else (bif (decide (x1 = (2 : Int))) then (cl (p_dg (x0, ())) (g_dg (x0, ())) fun y2 => (bif y2.1 then (cl (p_dh (x0, ())) (g_dh (x0, ())) fun y3 => (bif (bif y3.1 then false else true) then (some (y0.1, (false, ()))) else (some ((y0.1.1, (y0.1.2.1, (y0.1.2.2.1, (x1, y0.1.2.2.2.2)))), (true, ()))))) else (bif (decide (x0.2.2.2.1 = (2 : Int))) then (cl (p_dh (x0, ())) (g_dh (x0, ())) fun y4 => (bif (bif y4.1 then false else true) then (some (y0.1, (false, ()))) else (bif (bif (decide (x1 = (4 : Int))) then false else true) then (some (y0.1, (false, ()))) else (some ((y0.1.1, (y0.1.2.1, (y0.1.2.2.1, (x1, y0.1.2.2.2.2)))), (true, ())))))) else (cl (p_dh (x0, ())) (g_dh (x0, ())) fun y5 => (bif (bif y5.1 then false else true) then (some (y0.1, (false, ()))) else (some (y0.1, (false, ())))))))) else (bif (decide (x0.2.2.2.1 = (2 : Int))) then (cl (p_dh (x0, ())) (g_dh (x0, ())) fun y6 => (bif (bif y6.1 then false else true) then (some (y0.1, (false, ()))) else (bif (bif (decide (x1 = (4 : Int))) then false else true) then (some (y0.1, (false, ()))) else (some ((y0.1.1, (y0.1.2.1, (y0.1.2.2.1, (x1, y0.1.2.2.2.2)))), (true, ())))))) else (cl (p_dh (x0, ())) (g_dh (x0, ())) fun y7 => (bif (bif y7.1 then false else true) then (some (y0.1, (false, ()))) else (some (y0.1, (false, ())))))))) else (bif (decide (x0.2.2.2.1 = (2 : Int))) then (cl (p_dh (x0, ())) (g_dh (x0, ())) fun y8 => (bif (bif y8.1 then false else true) then (some (y0.1, (false, ()))) else (bif (bif (decide (x1 = (4 : Int))) then false else true) then (some (y0.1, (false, ()))) else (some ((y0.1.1, (y0.1.2.1, (y0.1.2.2.1, (x1, y0.1.2.2.2.2)))), (true, ())))))) else (cl (p_dh (x0, ())) (g_dh (x0, ())) fun y9 => (bif (bif y9.1 then false else true) then (some (y0.1, (false, ()))) else (some (y0.1, (false, ())))))))) := by kernel_rfl
theorem S_fa (h_ec : C_ec p_ec g_ec) (h_dg : C_dg p_dg g_dg) (h_dh : C_dh p_dh g_dh) {pre fn} (hev : Hq (E_fa g_ec p_ec g_dg p_dg g_dh p_dh) pre fn) : C_fa pre fn := sound tysOk mixed (fn := Tryz.f45) rfl rfl rfl (.cons h_ec (.cons h_dg (.cons h_dh .nil))) _ hev
end
abbrev M_fb : Lm := [.pO S_HouHouse, .imm S_ReqReq]
abbrev R_fb : Lr := [(.imm, I)]
abbrev In_fb := Iq M_fb
abbrev Out_fb := Oq R_fb M_fb
abbrev C_fb := Cq 131 M_fb R_fb
section
variable (g_f3 : In_f3 -> Out_f3) (p_f3 : In_f3 -> Bool) (g_f6 : In_f6 -> Out_f6) (p_f6 : In_f6 -> Bool) (g_f9 : In_f9 -> Out_f9) (p_f9 : In_f9 -> Bool) (g_fa : In_fa -> Out_fa) (p_fa : In_fa -> Bool) (g_ei : In_ei -> Out_ei)
abbrev X_fb : Ctx := ctx tys 156 (conOf [(39, ⟨M_f3, R_f3, p_f3, g_f3⟩), (36, ⟨M_f6, R_f6, p_f6, g_f6⟩), (31, ⟨M_f9, R_f9, p_f9, g_f9⟩), (45, ⟨M_fa, R_fa, p_fa, g_fa⟩), (128, ⟨M_ei, R_ei, fun _ => true, g_ei⟩)]) (keepOf []) nF
abbrev E_fb := evFn (X_fb g_f3 p_f3 g_f6 p_f6 g_f9 p_f9 g_fa p_fa g_ei) Tryz.f131 R_fb M_fb
variable {g_f3 p_f3 g_f6 p_f6 g_f9 p_f9 g_fa p_fa g_ei}
theorem ev_fb (k : Nat) (x0 : Dm (.pO S_HouHouse)) (x1 : Dm (.imm S_ReqReq)) : E_fb g_f3 p_f3 g_f6 p_f6 g_f9 p_f9 g_fa p_fa g_ei k (x0, x1, ()) =
 (lt (rdL (e := S_BatBatch) x0.2.2 x1.2.2.1) fun s1 => (lt (w64 (x1.1 - (1 : Int))) fun s0 => (bif (decide ((List.length x0.2.2 : Int) <= x1.2.2.1)) then (some ((3 : Int), (x0, ()))) else (bif (bif (decide ((0 : Int) <= x1.2.2.1)) then (decide (x1.2.2.1 < (List.length x0.2.2 : Int))) else false) then (bif (decide (x1.2.1 = (4 : Int))) then (cl (p_f3 (s1, (x1.2.2.2.1, ((1 : Int), (x1.2.2.2.2.2.1, ((0 : Int), ())))))) (g_f3 (s1, (x1.2.2.2.1, ((1 : Int), (x1.2.2.2.2.2.1, ((0 : Int), ())))))) fun y0 => (some ((g_ei (y0.2.1, ((5 : Int), ()))).1, ((x0.1, (x0.2.1, (List.set x0.2.2 (Int.toNat x1.2.2.1) y0.1))), ())))) else (bif (decide (x1.2.1 = (5 : Int))) then (cl (p_f3 (s1, (x1.2.2.2.1, ((2 : Int), (((0 : Int), (0 : Int)), (x1.2.2.2.2.1, ())))))) (g_f3 (s1, (x1.2.2.2.1, ((2 : Int), (((0 : Int), (0 : Int)), (x1.2.2.2.2.1, ())))))) fun y1 => (some ((g_ei (y1.2.1, ((5 : Int), ()))).1, ((x0.1, (x0.2.1, (List.set x0.2.2 (Int.toNat x1.2.2.1) y1.1))), ())))) else (bif (decide (x1.2.1 = (6 : Int))) then (cl (p_f3 (s1, (x1.2.2.2.1, ((3 : Int), (x1.2.2.2.2.2.1, ((0 : Int), ())))))) (g_f3 (s1, (x1.2.2.2.1, ((3 : Int), (x1.2.2.2.2.2.1, ((0 : Int), ())))))) fun y2 => (some ((g_ei (y2.2.1, ((5 : Int), ()))).1, ((x0.1, (x0.2.1, (List.set x0.2.2 (Int.toNat x1.2.2.1) y2.1))), ())))) else (bif (decide (x1.2.1 = (7 : Int))) then (cl (p_f6 (s1, ((List.length s1.2.2.2.2.2 : Int), (true, ())))) (g_f6 (s1, ((List.length s1.2.2.2.2.2 : Int), (true, ())))) fun y3 => (some ((g_ei (y3.2.1, ((5 : Int), ()))).1, ((x0.1, (x0.2.1, (List.set x0.2.2 (Int.toNat x1.2.2.1) y3.1))), ())))) else (bif (decide (x1.2.1 = (8 : Int))) then (cl (p_f6 (s1, (x1.2.2.2.2.1, (false, ())))) (g_f6 (s1, (x1.2.2.2.2.1, (false, ())))) fun y4 => (some ((g_ei (y4.2.1, ((5 : Int), ()))).1, ((x0.1, (x0.2.1, (List.set x0.2.2 (Int.toNat x1.2.2.1) y4.1))), ())))) else (bif (decide (x1.2.1 = (9 : Int))) then (bif (bif (decide ((0 : Int) <= s0)) then (decide (s0 < (List.length x0.1 : Int))) else false) then (cl (p_f9 (s1, (x1.1, ((rdL (e := I) x0.1 s0), ())))) (g_f9 (s1, (x1.1, ((rdL (e := I) x0.1 s0), ())))) fun y5 => (some ((g_ei (y5.2.1, ((5 : Int), ()))).1, ((x0.1, (x0.2.1, (List.set x0.2.2 (Int.toNat x1.2.2.1) y5.1))), ())))) else none) else (bif (decide (x1.2.1 = (10 : Int))) then (cl (p_fa (s1, ((2 : Int), ()))) (g_fa (s1, ((2 : Int), ()))) fun y6 => (some ((g_ei (y6.2.1, ((5 : Int), ()))).1, ((x0.1, (x0.2.1, (List.set x0.2.2 (Int.toNat x1.2.2.1) y6.1))), ())))) else (bif (decide (x1.2.1 = (11 : Int))) then (cl (p_fa (s1, ((3 : Int), ()))) (g_fa (s1, ((3 : Int), ()))) fun y7 => (some ((g_ei (y7.2.1, ((5 : Int), ()))).1, ((x0.1, (x0.2.1, (List.set x0.2.2 (Int.toNat x1.2.2.1) y7.1))), ())))) else (bif (decide (x1.2.1 = (12 : Int))) then (cl (p_fa (s1, ((4 : Int), ()))) (g_fa (s1, ((4 : Int), ()))) fun y8 => (some ((g_ei (y8.2.1, ((5 : Int), ()))).1, ((x0.1, (x0.2.1, (List.set x0.2.2 (Int.toNat x1.2.2.1) y8.1))), ())))) else (some ((g_ei (false, ((5 : Int), ()))).1, (x0, ())))))))))))) else none)))) := by kernel_rfl
theorem S_fb (h_f3 : C_f3 p_f3 g_f3) (h_f6 : C_f6 p_f6 g_f6) (h_f9 : C_f9 p_f9 g_f9) (h_fa : C_fa p_fa g_fa) (h_ei : C_ei (fun _ => true) g_ei) {pre fn} (hev : Hq (E_fb g_f3 p_f3 g_f6 p_f6 g_f9 p_f9 g_fa p_fa g_ei) pre fn) : C_fb pre fn := sound tysOk mixed (fn := Tryz.f131) rfl rfl rfl (.cons h_f3 (.cons h_f6 (.cons h_f9 (.cons h_fa (.cons h_ei .nil))))) _ hev
end
abbrev M_fc : Lm := [.pO S_HouHouse, .imm S_ReqReq]
abbrev R_fc : Lr := [(.imm, I)]
abbrev In_fc := Iq M_fc
abbrev Out_fc := Oq R_fc M_fc
abbrev C_fc := Cq 61 M_fc R_fc
section
variable (g_eg : In_eg -> Out_eg) (g_eh : In_eh -> Out_eh) (p_eh : In_eh -> Bool) (g_ei : In_ei -> Out_ei) (g_em : In_em -> Out_em) (p_em : In_em -> Bool) (g_ep : In_ep -> Out_ep) (p_ep : In_ep -> Bool) (g_fb : In_fb -> Out_fb) (p_fb : In_fb -> Bool)
abbrev X_fc : Ctx := ctx tys 82 (conOf [(52, ⟨M_eg, R_eg, fun _ => true, g_eg⟩), (127, ⟨M_eh, R_eh, p_eh, g_eh⟩), (128, ⟨M_ei, R_ei, fun _ => true, g_ei⟩), (129, ⟨M_em, R_em, p_em, g_em⟩), (130, ⟨M_ep, R_ep, p_ep, g_ep⟩), (131, ⟨M_fb, R_fb, p_fb, g_fb⟩)]) (keepOf []) nF
abbrev E_fc := evFn (X_fc g_eg g_eh p_eh g_ei g_em p_em g_ep p_ep g_fb p_fb) Tryz.f61 R_fc M_fc
variable {g_eg g_eh p_eh g_ei g_em p_em g_ep p_ep g_fb p_fb}
theorem ev_fc (k : Nat) (x0 : Dm (.pO S_HouHouse)) (x1 : Dm (.imm S_ReqReq)) : E_fc g_eg g_eh p_eh g_ei g_em p_em g_ep p_ep g_fb p_fb k (x0, x1, ()) =
 (bif (decide ((List.length x0.1 : Int) < x1.1)) then (some ((2 : Int), (x0, ()))) else (bif (bif (decide ((0 : Int) <= (w64 (x1.1 - (1 : Int))))) then (decide ((w64 (x1.1 - (1 : Int))) < (List.length x0.1 : Int))) else false) then (bif (bif (g_eg ((rdL (e := I) x0.1 (w64 (x1.1 - (1 : Int)))), (x1.2.1, ()))).1 then false else true) then (some ((2 : Int), (x0, ()))) else (bif (decide (x1.2.1 = (1 : Int))) then (cl (p_eh (x0.2.1, (x1.2.2.2.2.2.2, ()))) (g_eh (x0.2.1, (x1.2.2.2.2.2.2, ()))) fun y0 => (some ((g_ei (y0.2.1, ((6 : Int), ()))).1, ((x0.1, (y0.1, x0.2.2)), ())))) else (bif (decide (x1.2.1 = (2 : Int))) then (bif (decide ((List.length x0.2.1 : Int) <= x1.2.2.2.2.1)) then (some ((4 : Int), (x0, ()))) else (cl (p_em (x0.2.1, (x1.2.2.2.2.1, ()))) (g_em (x0.2.1, (x1.2.2.2.2.1, ()))) fun y1 => (some ((g_ei (y1.2.1, ((5 : Int), ()))).1, ((x0.1, (y1.1, x0.2.2)), ()))))) else (bif (decide (x1.2.1 = (3 : Int))) then (cl (p_ep (x0, (x1.2.2.2.2.1, ()))) (g_ep (x0, (x1.2.2.2.2.1, ()))) fun y2 => (some (y2.1, (y2.2.1, ())))) else (cl (p_fb (x0, (x1, ()))) (g_fb (x0, (x1, ()))) fun y3 => (some (y3.1, (y3.2.1, ())))))))) else none)) := by kernel_rfl
theorem S_fc (h_eg : C_eg (fun _ => true) g_eg) (h_eh : C_eh p_eh g_eh) (h_ei : C_ei (fun _ => true) g_ei) (h_em : C_em p_em g_em) (h_ep : C_ep p_ep g_ep) (h_fb : C_fb p_fb g_fb) {pre fn} (hev : Hq (E_fc g_eg g_eh p_eh g_ei g_em p_em g_ep p_ep g_fb p_fb) pre fn) : C_fc pre fn := sound tysOk mixed (fn := Tryz.f61) rfl rfl rfl (.cons h_eg (.cons h_eh (.cons h_ei (.cons h_em (.cons h_ep (.cons h_fb .nil)))))) _ hev
end
abbrev M_fd : Lm := [.imm S_HouHouse, .imm S_ReqReq]
abbrev R_fd : Lr := [(.own, S_HouHouse), (.imm, I)]
abbrev In_fd := Iq M_fd
abbrev Out_fd := Oq R_fd M_fd
abbrev C_fd := Cq 16 M_fd R_fd
section
variable (g_dq : In_dq -> Out_dq) (p_dq : In_dq -> Bool) (g_e4 : In_e4 -> Out_e4) (p_e4 : In_e4 -> Bool) (g_ed : In_ed -> Out_ed) (p_ed : In_ed -> Bool) (g_fc : In_fc -> Out_fc) (p_fc : In_fc -> Bool)
abbrev X_fd : Ctx := ctx tys 23 (conOf [(50, ⟨M_dq, R_dq, p_dq, g_dq⟩), (24, ⟨M_e4, R_e4, p_e4, g_e4⟩), (60, ⟨M_ed, R_ed, p_ed, g_ed⟩), (61, ⟨M_fc, R_fc, p_fc, g_fc⟩)]) (keepOf []) nF
abbrev E_fd := evFn (X_fd g_dq p_dq g_e4 p_e4 g_ed p_ed g_fc p_fc) Tryz.f16 R_fd M_fd
variable {g_dq p_dq g_e4 p_e4 g_ed p_ed g_fc p_fc}
theorem ev_fd (k : Nat) (x0 : Dm (.imm S_HouHouse)) (x1 : Dm (.imm S_ReqReq)) : E_fd g_dq p_dq g_e4 p_e4 g_ed p_ed g_fc p_fc k (x0, x1, ()) =
 (cl (p_dq (x0, ())) (g_dq (x0, ())) fun y0 => (bif (bif y0.1 then false else true) then (some (([], ([], [])), ((0 : Int), ()))) else (cl (p_e4 (x1, ())) (g_e4 (x1, ())) fun y1 => (bif (bif y1.1 then false else true) then (some (([], ([], [])), ((0 : Int), ()))) else (cl (p_ed (x0, ())) (g_ed (x0, ())) fun y2 => (cl (p_fc (y2.1, (x1, ()))) (g_fc (y2.1, (x1, ()))) fun y3 => (some (y3.2.1, (y3.1, ()))))))))) := by kernel_rfl
theorem S_fd (h_dq : C_dq p_dq g_dq) (h_e4 : C_e4 p_e4 g_e4) (h_ed : C_ed p_ed g_ed) (h_fc : C_fc p_fc g_fc) {pre fn} (hev : Hq (E_fd g_dq p_dq g_e4 p_e4 g_ed p_ed g_fc p_fc) pre fn) : C_fd pre fn := sound tysOk mixed (fn := Tryz.f16) rfl rfl rfl (.cons h_dq (.cons h_e4 (.cons h_ed (.cons h_fc .nil)))) _ hev
end
abbrev M_fe : Lm := [.imm I]
abbrev R_fe : Lr := [(.imm, .bool)]
abbrev In_fe := Iq M_fe
abbrev Out_fe := Oq R_fe M_fe
abbrev C_fe := Cq 185 M_fe R_fe
abbrev X_fe : Ctx := ctx tys 16 (conOf []) (keepOf []) nF
abbrev E_fe := evFn X_fe Tryz.f185 R_fe M_fe
theorem ev_fe (k : Nat) (x0 : Dm (.imm I)) : E_fe k (x0, ()) =
 (bif (bif (decide ((4 : Int) = (0 : Int))) then false else true) then (bif (decide ((Int.tmod x0 (4 : Int)) = (0 : Int))) then (bif (bif (decide ((100 : Int) = (0 : Int))) then false else true) then (bif (bif (decide ((Int.tmod x0 (100 : Int)) = (0 : Int))) then false else true) then (some (true, ())) else (bif (bif (decide ((400 : Int) = (0 : Int))) then false else true) then (some ((decide ((Int.tmod x0 (400 : Int)) = (0 : Int))), ())) else none)) else none) else (some (false, ()))) else none) := by kernel_rfl
theorem S_fe  {pre fn} (hev : Hq E_fe pre fn) : C_fe pre fn := sound tysOk mixed (fn := Tryz.f185) rfl rfl rfl ConsOk.nil _ hev
abbrev M_ff : Lm := [.imm I, .imm I]
abbrev R_ff : Lr := [(.imm, I)]
abbrev In_ff := Iq M_ff
abbrev Out_ff := Oq R_ff M_ff
abbrev C_ff := Cq 137 M_ff R_ff
section
variable (g_iin : In_iin -> Out_iin) (g_fe : In_fe -> Out_fe)
abbrev X_ff : Ctx := ctx tys 20 (conOf [(65, ⟨M_iin, R_iin, fun _ => true, g_iin⟩), (185, ⟨M_fe, R_fe, fun _ => true, g_fe⟩)]) (keepOf []) nF
abbrev E_ff := evFn (X_ff g_iin g_fe) Tryz.f137 R_ff M_ff
variable {g_iin g_fe}
theorem ev_ff (k : Nat) (x0 : Dm (.imm I)) (x1 : Dm (.imm I)) : E_ff g_iin g_fe k (x0, x1, ()) =
 (bif (bif (g_iin (x1, ((1 : Int), ((12 : Int), ())))).1 then false else true) then (some ((0 : Int), ())) else (bif (decide (x1 = (2 : Int))) then (bif (g_fe (x0, ())).1 then (some ((29 : Int), ())) else none) else none)) := by kernel_rfl
theorem S_ff (h_iin : C_iin (fun _ => true) g_iin) (h_fe : C_fe (fun _ => true) g_fe) {pre fn} (hev : Hq (E_ff g_iin g_fe) pre fn) : C_ff pre fn := sound tysOk mixed (fn := Tryz.f137) rfl rfl rfl (.cons h_iin (.cons h_fe .nil)) _ hev
end
abbrev M_fg : Lm := [.imm S_BatSig]
abbrev R_fg : Lr := [(.imm, .bool)]
abbrev In_fg := Iq M_fg
abbrev Out_fg := Oq R_fg M_fg
abbrev C_fg := Cq 64 M_fg R_fg
section
variable (g_iin : In_iin -> Out_iin) (g_ff : In_ff -> Out_ff) (p_ff : In_ff -> Bool)
abbrev X_fg : Ctx := ctx tys 16 (conOf [(65, ⟨M_iin, R_iin, fun _ => true, g_iin⟩), (137, ⟨M_ff, R_ff, p_ff, g_ff⟩)]) (keepOf []) nF
abbrev E_fg := evFn (X_fg g_iin g_ff p_ff) Tryz.f64 R_fg M_fg
variable {g_iin g_ff p_ff}
theorem ev_fg (k : Nat) (x0 : Dm (.imm S_BatSig)) : E_fg g_iin g_ff p_ff k (x0, ()) =
 (bif (g_iin (x0.1, ((1900 : Int), ((2199 : Int), ())))).1 then (bif (p_ff (x0.1, (x0.2.1, ()))) then (some ((g_iin (x0.2.2, ((1 : Int), ((g_ff (x0.1, (x0.2.1, ()))).1, ())))).1, ())) else none) else (some (false, ()))) := by kernel_rfl
theorem S_fg (h_iin : C_iin (fun _ => true) g_iin) (h_ff : C_ff p_ff g_ff) {pre fn} (hev : Hq (E_fg g_iin g_ff p_ff) pre fn) : C_fg pre fn := sound tysOk mixed (fn := Tryz.f64) rfl rfl rfl (.cons h_iin (.cons h_ff .nil)) _ hev
end
abbrev M_fh : Lm := []
abbrev R_fh : Lr := [(.imm, .bool)]
abbrev In_fh := Iq M_fh
abbrev Out_fh := Oq R_fh M_fh
abbrev C_fh := Cq 19 M_fh R_fh
section
variable (g_fg : In_fg -> Out_fg) (p_fg : In_fg -> Bool)
abbrev X_fh : Ctx := ctx tys 3 (conOf [(64, ⟨M_fg, R_fg, p_fg, g_fg⟩)]) (keepOf []) nF
abbrev E_fh := evFn (X_fh g_fg p_fg) Tryz.f19 R_fh M_fh
variable {g_fg p_fg}
theorem ev_fh (k : Nat)  : E_fh g_fg p_fg k (()) =
 (bif (p_fg (((2000 : Int), ((2 : Int), (29 : Int))), ())) then (some ((g_fg (((2000 : Int), ((2 : Int), (29 : Int))), ())).1, ())) else none) := by kernel_rfl
theorem S_fh (h_fg : C_fg p_fg g_fg) {pre fn} (hev : Hq (E_fh g_fg p_fg) pre fn) : C_fh pre fn := sound tysOk mixed (fn := Tryz.f19) rfl rfl rfl (.cons h_fg .nil) _ hev
end
abbrev M_lFnHouStates : Lm := [.imm L_u8, .imm L_u8]
abbrev R_lFnHouStates : Lr := [(.own, .bool)]
abbrev In_lFnHouStates := Iq M_lFnHouStates
abbrev Out_lFnHouStates := Oq R_lFnHouStates M_lFnHouStates
abbrev C_lFnHouStates := Cq 10 M_lFnHouStates R_lFnHouStates
section
variable (g_c3 : In_c3 -> Out_c3) (p_c3 : In_c3 -> Bool) (g_c4 : In_c4 -> Out_c4) (p_c4 : In_c4 -> Bool) (g_c5 : In_c5 -> Out_c5) (p_c5 : In_c5 -> Bool) (g_c6 : In_c6 -> Out_c6) (p_c6 : In_c6 -> Bool) (g_dq : In_dq -> Out_dq) (p_dq : In_dq -> Bool) (g_dt : In_dt -> Out_dt) (p_dt : In_dt -> Bool) (g_dv : In_dv -> Out_dv) (p_dv : In_dv -> Bool) (g_fd : In_fd -> Out_fd) (p_fd : In_fd -> Bool) (g_fh : In_fh -> Out_fh)
abbrev X_lFnHouStates : Ctx := ctx tys 111 (conOf [(46, ⟨M_c3, R_c3, p_c3, g_c3⟩), (47, ⟨M_c4, R_c4, p_c4, g_c4⟩), (49, ⟨M_c5, R_c5, p_c5, g_c5⟩), (48, ⟨M_c6, R_c6, p_c6, g_c6⟩), (50, ⟨M_dq, R_dq, p_dq, g_dq⟩), (51, ⟨M_dt, R_dt, p_dt, g_dt⟩), (15, ⟨M_dv, R_dv, p_dv, g_dv⟩), (16, ⟨M_fd, R_fd, p_fd, g_fd⟩), (19, ⟨M_fh, R_fh, fun _ => true, g_fh⟩)]) (keepOf [(pt4, (⟨[(11, .own), (12, .own), (13, .asis)], [], []⟩ : Keep))]) nF
abbrev E_lFnHouStates := evFn (X_lFnHouStates g_c3 p_c3 g_c4 p_c4 g_c5 p_c5 g_c6 p_c6 g_dq p_dq g_dt p_dt g_dv p_dv g_fd p_fd g_fh) Tryz.f10 R_lFnHouStates M_lFnHouStates
def h0_lFnHouStates (x0 : Dm (.imm L_u8)) (x1 : Dm (.imm L_u8)) (h0 : Dn I) (h1 : (List (Dn I))) (h2 : (List (Dn I))) : St := mkS [(11, (AV.sref 2511 none [])), (12, (AV.sref 2512 none [])), (13, (AV.val I h0))] [(2511, (Ob.arr 3 I h1)), (2512, (Ob.arr 3 I h2))]
def r_lFnHouStates := rounds (X_lFnHouStates g_c3 p_c3 g_c4 p_c4 g_c5 p_c5 g_c6 p_c6 g_dq p_dq g_dt p_dt g_dv p_dv g_fd p_fd g_fh) Tryz.f10 R_lFnHouStates M_lFnHouStates
variable {g_c3 p_c3 g_c4 p_c4 g_c5 p_c5 g_c6 p_c6 g_dq p_dq g_dt p_dt g_dv p_dv g_fd p_fd g_fh}
theorem ev_lFnHouStates (k : Nat) (x0 : Dm (.imm L_u8)) (x1 : Dm (.imm L_u8)) : E_lFnHouStates g_c3 p_c3 g_c4 p_c4 g_c5 p_c5 g_c6 p_c6 g_dq p_dq g_dt p_dt g_dv p_dv g_fd p_fd g_fh k (x0, x1, ()) =
 (bif (decide ((1048576 : Int) < (List.length x0 : Int))) then (some (true, ())) else (bif (decide ((1048576 : Int) < (List.length x1 : Int))) then (some (true, ())) else (cl (p_c3 (x0, ())) (g_c3 (x0, ())) fun y0 => (cl (p_c4 (y0.1, ())) (g_c4 (y0.1, ())) fun y1 => (cl (p_c5 (y0.1, ())) (g_c5 (y0.1, ())) fun y2 => (cl (p_c6 (y1.1, (y2.1, ()))) (g_c6 (y1.1, (y2.1, ()))) fun y3 => (bif (bif y3.1 then false else true) then (some (false, ())) else (bif (bif (decide ((List.length y1.1 : Int) = (List.length y0.1.2.2 : Int))) then false else true) then (some (false, ())) else (cl (p_dq (y0.1, ())) (g_dq (y0.1, ())) fun y4 => (cl (p_dt (y0.1, ())) (g_dt (y0.1, ())) fun y5 => (bif (bif (y4.1 == y5.1) then false else true) then (some (false, ())) else (cl (p_dv (x1, ())) (g_dv (x1, ())) fun y6 => (cl (p_fd (y6.1, (y6.2.1, ()))) (g_fd (y6.1, (y6.2.1, ()))) fun y7 => (bif (decide (y7.2.1 = (0 : Int))) then (some ((g_fh ()).1, ())) else (cl (p_c4 (y6.1, ())) (g_c4 (y6.1, ())) fun y8 => (cl (p_c4 (y7.1, ())) (g_c4 (y7.1, ())) fun y9 => (r_lFnHouStates g_c3 p_c3 g_c4 p_c4 g_c5 p_c5 g_c6 p_c6 g_dq p_dq g_dt p_dt g_dv p_dv g_fd p_fd g_fh (x0, x1, ()) k pt4 (h0_lFnHouStates x0 x1 (0 : Int) (y8.1) (y9.1))))))))))))))))))) := by kernel_rfl
theorem rd0_lFnHouStates (k : Nat) (x0 : Dm (.imm L_u8)) (x1 : Dm (.imm L_u8)) (h0 : Dn I) (h1 : (List (Dn I))) (h2 : (List (Dn I))) : r_lFnHouStates g_c3 p_c3 g_c4 p_c4 g_c5 p_c5 g_c6 p_c6 g_dq p_dq g_dt p_dt g_dv p_dv g_fd p_fd g_fh (x0, x1, ()) (k + 1) pt4 (h0_lFnHouStates x0 x1 h0 h1 h2) =
 (bif (decide (h0 < (List.length h1 : Int))) then (bif (bif (decide ((0 : Int) <= h0)) then (decide (h0 < (List.length h2 : Int))) else false) then (bif (bif (decide ((0 : Int) <= h0)) then (decide (h0 < (List.length h1 : Int))) else false) then (bif (decide ((rdL (e := I) h2 h0) < (rdL (e := I) h1 h0))) then (some (false, ())) else (bif (bif (decide ((0 : Int) <= h0)) then (decide (h0 < (List.length h1 : Int))) else false) then (bif (bif (decide ((rdL (e := I) h1 h0) = (1 : Int))) then false else true) then (bif (bif (decide ((0 : Int) <= h0)) then (decide (h0 < (List.length h2 : Int))) else false) then (bif (bif (decide ((0 : Int) <= h0)) then (decide (h0 < (List.length h1 : Int))) else false) then (bif (bif (decide ((rdL (e := I) h2 h0) = (rdL (e := I) h1 h0))) then false else true) then (bif (bif (decide ((0 : Int) <= h0)) then (decide (h0 < (List.length h1 : Int))) else false) then (bif (bif (decide ((rdL (e := I) h1 h0) = (2 : Int))) then false else true) then (some (false, ())) else (bif (bif (decide ((0 : Int) <= h0)) then (decide (h0 < (List.length h2 : Int))) else false) then (bif (bif (decide ((rdL (e := I) h2 h0) = (4 : Int))) then false else true) then (some (false, ())) else (r_lFnHouStates g_c3 p_c3 g_c4 p_c4 g_c5 p_c5 g_c6 p_c6 g_dq p_dq g_dt p_dt g_dv p_dv g_fd p_fd g_fh (x0, x1, ()) k pt4 (h0_lFnHouStates x0 x1 (w64 (h0 + (1 : Int))) h1 h2))) else none)) else none) else (r_lFnHouStates g_c3 p_c3 g_c4 p_c4 g_c5 p_c5 g_c6 p_c6 g_dq p_dq g_dt p_dt g_dv p_dv g_fd p_fd g_fh (x0, x1, ()) k pt4 (h0_lFnHouStates x0 x1 (w64 (h0 + (1 : Int))) h1 h2))) else none) else none) else (r_lFnHouStates g_c3 p_c3 g_c4 p_c4 g_c5 p_c5 g_c6 p_c6 g_dq p_dq g_dt p_dt g_dv p_dv g_fd p_fd g_fh (x0, x1, ()) k pt4 (h0_lFnHouStates x0 x1 (w64 (h0 + (1 : Int))) h1 h2))) else none)) else none) else none) else (some (true, ()))) := by kernel_rfl
theorem S_lFnHouStates (h_c3 : C_c3 p_c3 g_c3) (h_c4 : C_c4 p_c4 g_c4) (h_c5 : C_c5 p_c5 g_c5) (h_c6 : C_c6 p_c6 g_c6) (h_dq : C_dq p_dq g_dq) (h_dt : C_dt p_dt g_dt) (h_dv : C_dv p_dv g_dv) (h_fd : C_fd p_fd g_fd) (h_fh : C_fh (fun _ => true) g_fh) {pre fn} (hev : Hq (E_lFnHouStates g_c3 p_c3 g_c4 p_c4 g_c5 p_c5 g_c6 p_c6 g_dq p_dq g_dt p_dt g_dv p_dv g_fd p_fd g_fh) pre fn) : C_lFnHouStates pre fn := sound tysOk mixed (fn := Tryz.f10) rfl rfl rfl (.cons h_c3 (.cons h_c4 (.cons h_c5 (.cons h_c6 (.cons h_dq (.cons h_dt (.cons h_dv (.cons h_fd (.cons h_fh .nil))))))))) _ hev
end
end
end Go.Proofs.YtddpemilmeijfaaGreat
