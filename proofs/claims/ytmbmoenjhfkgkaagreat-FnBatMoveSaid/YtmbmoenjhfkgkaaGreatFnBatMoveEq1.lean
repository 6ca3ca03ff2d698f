/- The functions of the seat, evaluated: equations, checked by the kernel. Made by a program. -/
import Derived.Test.YtmbmoenjhfkgkaaGreatFnBatMoveEq0
set_option linter.unusedVariables false
set_option maxRecDepth 100000
namespace Go.Proofs.YtmbmoenjhfkgkaaGreat
open Go.Vm
/-! cv: idecsOk -/
abbrev M_cv : List Vm.Mode := [.imm L_DecDec]
abbrev R_cv : List (RK × Sh) := [(.imm, .bool)]
abbrev In_cv : Type := (insSh M_cv).den
abbrev Out_cv : Type := (outSh R_cv M_cv).den
abbrev C_cv (pre : In_cv -> Bool) (fn : In_cv -> Out_cv) : Prop := Sound Tryz.prog 178 ⟨M_cv, R_cv, pre, fn⟩
section
variable (g_cu : In_cu -> Out_cu) (p_cu : In_cu -> Bool)
abbrev X_cv : Ctx := ctx tys 6 (conOf [(233, ⟨M_cu, R_cu, p_cu, g_cu⟩)]) (keepOf []) (fun _ => [])
noncomputable abbrev E_cv (k : Nat) (x : In_cv) : Option Out_cv := evFn (X_cv g_cu p_cu) Tryz.f178 R_cv M_cv k x
variable {g_cu p_cu}
theorem ev_cv (k : Nat) (x0 : Dm (.imm L_DecDec)) : E_cv g_cu p_cu k (x0, ()) =
  (bif (p_cu (x0, ((), ()))) then (some ((bif (g_cu (x0, ((), ()))).1 then false else true), ())) else none) := by kernel_rfl
theorem S_cv (h_cu : C_cu p_cu g_cu) {pre : In_cv -> Bool} {fn : In_cv -> Out_cv} (hev : ∀ x, pre x = true -> ∃ k, E_cv g_cu p_cu k x = some (fn x)) : C_cv pre fn := sound tysOk mixed (fn := Tryz.f178) rfl rfl rfl (.cons h_cu .nil) _ hev
end
/-! cw: iTstNeed -/
abbrev M_cw : List Vm.Mode := [.imm I]
abbrev R_cw : List (RK × Sh) := [(.imm, I)]
abbrev In_cw : Type := (insSh M_cw).den
abbrev Out_cw : Type := (outSh R_cw M_cw).den
abbrev C_cw (pre : In_cw -> Bool) (fn : In_cw -> Out_cw) : Prop := Sound Tryz.prog 179 ⟨M_cw, R_cw, pre, fn⟩
abbrev X_cw : Ctx := ctx tys 8 (conOf []) (keepOf []) (fun _ => [])
noncomputable abbrev E_cw (k : Nat) (x : In_cw) : Option Out_cw := evFn X_cw Tryz.f179 R_cw M_cw k x
theorem ev_cw (k : Nat) (x0 : Dm (.imm I)) : E_cw k (x0, ()) =
  (bif (decide (x0 = (1 : Int))) then (some ((1 : Int), ())) else (bif (decide (x0 = (2 : Int))) then (some ((2 : Int), ())) else (some ((0 : Int), ())))) := by kernel_rfl
theorem S_cw  {pre : In_cw -> Bool} {fn : In_cw -> Out_cw} (hev : ∀ x, pre x = true -> ∃ k, E_cw k x = some (fn x)) : C_cw pre fn := sound tysOk mixed (fn := Tryz.f179) rfl rfl rfl ConsOk.nil _ hev
/-! cx: iSpcIn -/
abbrev M_cx : List Vm.Mode := [.imm S_SpcTest, .imm S_DecDec]
abbrev R_cx : List (RK × Sh) := [(.imm, .bool)]
abbrev In_cx : Type := (insSh M_cx).den
abbrev Out_cx : Type := (outSh R_cx M_cx).den
abbrev C_cx (pre : In_cx -> Bool) (fn : In_cx -> Out_cx) : Prop := Sound Tryz.prog 181 ⟨M_cx, R_cx, pre, fn⟩
section
variable (g_cr : In_cr -> Out_cr) (g_cl : In_cl -> Out_cl) (g_cn : In_cn -> Out_cn) (g_cq : In_cq -> Out_cq)
abbrev X_cx : Ctx := ctx tys 30 (conOf [(177, ⟨M_cr, R_cr, fun _ => true, g_cr⟩), (124, ⟨M_cl, R_cl, fun _ => true, g_cl⟩), (237, ⟨M_cn, R_cn, fun _ => true, g_cn⟩), (232, ⟨M_cq, R_cq, fun _ => true, g_cq⟩)]) (keepOf []) (fun _ => [])
noncomputable abbrev E_cx (k : Nat) (x : In_cx) : Option Out_cx := evFn (X_cx g_cr g_cl g_cn g_cq) Tryz.f181 R_cx M_cx k x
variable {g_cr g_cl g_cn g_cq}
theorem ev_cx (k : Nat) (x0 : Dm (.imm S_SpcTest)) (x1 : Dm (.imm S_DecDec)) : E_cx g_cr g_cl g_cn g_cq k (x0, x1, ()) =
  (bif (bif (g_cr (x0, ())).1 then false else true) then (some (false, ())) else (bif (bif (g_cl (x1, ())).1 then false else true) then (some (false, ())) else (bif (decide ((g_cq (x0.2.1, ((g_cn (x1, (x0.2.2.2, ()))).1, ()))).1 <= (0 : Int))) then (some ((decide ((g_cq ((g_cn (x1, (x0.2.2.2, ()))).1, (x0.2.2.1, ()))).1 <= (0 : Int))), ())) else (some (false, ()))))) := by kernel_rfl
theorem S_cx (h_cr : C_cr (fun _ => true) g_cr) (h_cl : C_cl (fun _ => true) g_cl) (h_cn : C_cn (fun _ => true) g_cn) (h_cq : C_cq (fun _ => true) g_cq) {pre : In_cx -> Bool} {fn : In_cx -> Out_cx} (hev : ∀ x, pre x = true -> ∃ k, E_cx g_cr g_cl g_cn g_cq k x = some (fn x)) : C_cx pre fn := sound tysOk mixed (fn := Tryz.f181) rfl rfl rfl (.cons h_cr (.cons h_cl (.cons h_cn (.cons h_cq .nil)))) _ hev
end
/-! cy: iDecMean -/
abbrev M_cy : List Vm.Mode := [.imm L_DecDec, .imm I]
abbrev R_cy : List (RK × Sh) := [(.imm, S_DecDec)]
abbrev In_cy : Type := (insSh M_cy).den
abbrev Out_cy : Type := (outSh R_cy M_cy).den
abbrev C_cy (pre : In_cy -> Bool) (fn : In_cy -> Out_cy) : Prop := Sound Tryz.prog 254 ⟨M_cy, R_cy, pre, fn⟩
section
variable (g_iin : In_iin -> Out_iin) (g_cv : In_cv -> Out_cv) (p_cv : In_cv -> Bool) (g_cn : In_cn -> Out_cn) (g_ck : In_ck -> Out_ck) (p_ck : In_ck -> Bool) (g_cm : In_cm -> Out_cm) (p_cm : In_cm -> Bool)
abbrev X_cy : Ctx := ctx tys 46 (conOf [(72, ⟨M_iin, R_iin, fun _ => true, g_iin⟩), (178, ⟨M_cv, R_cv, p_cv, g_cv⟩), (237, ⟨M_cn, R_cn, fun _ => true, g_cn⟩), (189, ⟨M_ck, R_ck, p_ck, g_ck⟩), (255, ⟨M_cm, R_cm, p_cm, g_cm⟩)]) (keepOf [(pt2, (⟨[(0, .asis), (1, .asis), (4, .asis), (5, .asis), (23, .asis), (24, .asis), (25, .asis)], [(4, .asis)], []⟩ : Keep))]) (fun _ => [])
noncomputable abbrev E_cy (k : Nat) (x : In_cy) : Option Out_cy := evFn (X_cy g_iin g_cv p_cv g_cn g_ck p_ck g_cm p_cm) Tryz.f254 R_cy M_cy k x
def h0_cy (x0 : Dm (.imm L_DecDec)) (x1 : Dm (.imm I)) (h0 : Dn I) (h1 : Dn I) (h2 : Dn I) (h3 : Dn S_DecDec) : St := mkS [(0, (AV.val L_DecDec x0)), (1, (AV.val I x1)), (4, (AV.ptr 4 none [])), (5, (AV.val I h0)), (23, (AV.val L_DecDec x0)), (24, (AV.val I h1)), (25, (AV.val I h2))] [(4, (Ob.box S_DecDec (AV.val S_DecDec h3)))]
noncomputable def r_cy (x : In_cy) (k : Nat) (p : List Bool) (s : St) : Option Out_cy := rounds (X_cy g_iin g_cv p_cv g_cn g_ck p_ck g_cm p_cm) Tryz.f254 R_cy M_cy x k p s
variable {g_iin g_cv p_cv g_cn g_ck p_ck g_cm p_cm}
theorem ev_cy (k : Nat) (x0 : Dm (.imm L_DecDec)) (x1 : Dm (.imm I)) : E_cy g_iin g_cv p_cv g_cn g_ck p_ck g_cm p_cm k (x0, x1, ()) =
  (bif (bif (g_iin ((List.length x0 : Int), ((1 : Int), ((100 : Int), ())))).1 then false else true) then (some (((0 : Int), (0 : Int)), ())) else (bif (p_cv (x0, ())) then (bif (bif (g_cv (x0, ())).1 then false else true) then (some (((0 : Int), (0 : Int)), ())) else (bif (bif (g_iin (x1, ((0 : Int), ((3 : Int), ())))).1 then false else true) then (some (((0 : Int), (0 : Int)), ())) else (r_cy g_iin g_cv p_cv g_cn g_ck p_ck g_cm p_cm (x0, x1, ()) k pt2 (h0_cy x0 x1 (0 : Int) (List.length x0 : Int) (0 : Int) ((0 : Int), (0 : Int)))))) else none)) := by kernel_rfl
theorem rd0_cy (k : Nat) (x0 : Dm (.imm L_DecDec)) (x1 : Dm (.imm I)) (h0 : Dn I) (h1 : Dn I) (h2 : Dn I) (h3 : Dn S_DecDec) : r_cy g_iin g_cv p_cv g_cn g_ck p_ck g_cm p_cm (x0, x1, ()) (k + 1) pt2 (h0_cy x0 x1 h0 h1 h2 h3) =
  (bif (decide (h2 < h1)) then (bif (bif (decide ((0 : Int) <= h2)) then (decide (h2 < (List.length x0 : Int))) else false) then (r_cy g_iin g_cv p_cv g_cn g_ck p_ck g_cm p_cm (x0, x1, ()) k pt2 (h0_cy x0 x1 (w64 (h0 + (g_cn ((rdL (e := S_DecDec) x0 h2), ((3 : Int), ()))).1.1)) h1 (w64 (h2 + (1 : Int))) h3)) else none) else (bif (p_ck (x1, ())) then (bif (p_ck ((3 : Int), ())) then (bif (p_cm ((w64 (h0 * (g_ck (x1, ())).1)), ((w64 ((List.length x0 : Int) * (g_ck ((3 : Int), ())).1)), ()))) then (some (((g_cm ((w64 (h0 * (g_ck (x1, ())).1)), ((w64 ((List.length x0 : Int) * (g_ck ((3 : Int), ())).1)), ()))).1, x1), ())) else none) else none) else none)) := by kernel_rfl
theorem S_cy (h_iin : C_iin (fun _ => true) g_iin) (h_cv : C_cv p_cv g_cv) (h_cn : C_cn (fun _ => true) g_cn) (h_ck : C_ck p_ck g_ck) (h_cm : C_cm p_cm g_cm) {pre : In_cy -> Bool} {fn : In_cy -> Out_cy} (hev : ∀ x, pre x = true -> ∃ k, E_cy g_iin g_cv p_cv g_cn g_ck p_ck g_cm p_cm k x = some (fn x)) : C_cy pre fn := sound tysOk mixed (fn := Tryz.f254) rfl rfl rfl (.cons h_iin (.cons h_cv (.cons h_cn (.cons h_ck (.cons h_cm .nil))))) _ hev
end
/-! cz: iTstTest_counts -/
abbrev M_cz : List Vm.Mode := [.imm S_TstTest]
abbrev R_cz : List (RK × Sh) := [(.imm, S_DecDec)]
abbrev In_cz : Type := (insSh M_cz).den
abbrev Out_cz : Type := (outSh R_cz M_cz).den
abbrev C_cz (pre : In_cz -> Bool) (fn : In_cz -> Out_cz) : Prop := Sound Tryz.prog 235 ⟨M_cz, R_cz, pre, fn⟩
section
variable (g_cn : In_cn -> Out_cn) (g_cy : In_cy -> Out_cy) (p_cy : In_cy -> Bool)
abbrev X_cz : Ctx := ctx tys 33 (conOf [(237, ⟨M_cn, R_cn, fun _ => true, g_cn⟩), (254, ⟨M_cy, R_cy, p_cy, g_cy⟩)]) (keepOf []) (fun _ => [])
noncomputable abbrev E_cz (k : Nat) (x : In_cz) : Option Out_cz := evFn (X_cz g_cn g_cy p_cy) Tryz.f235 R_cz M_cz k x
variable {g_cn g_cy p_cy}
theorem ev_cz (k : Nat) (x0 : Dm (.imm S_TstTest)) : E_cz g_cn g_cy p_cy k (x0, ()) =
  (bif (decide (x0.2.2.2.1 = (1 : Int))) then (bif (bif (decide ((0 : Int) <= (0 : Int))) then (decide ((0 : Int) < (List.length x0.2.2.2.2 : Int))) else false) then (some ((g_cn ((rdL (e := S_DecDec) x0.2.2.2.2 (0 : Int)), (x0.1.2.2.2, ()))).1, ())) else none) else (bif (decide (x0.2.2.2.1 = (2 : Int))) then (bif (fitL [x0.2.2.1] x0.2.2.2.2) then (bif (p_cy ((List.append [x0.2.2.1] x0.2.2.2.2), (x0.1.2.2.2, ()))) then (some ((g_cy ((List.append [x0.2.2.1] x0.2.2.2.2), (x0.1.2.2.2, ()))).1, ())) else none) else none) else (some ((g_cn (x0.2.2.1, (x0.1.2.2.2, ()))).1, ())))) := by kernel_rfl
theorem S_cz (h_cn : C_cn (fun _ => true) g_cn) (h_cy : C_cy p_cy g_cy) {pre : In_cz -> Bool} {fn : In_cz -> Out_cz} (hev : ∀ x, pre x = true -> ∃ k, E_cz g_cn g_cy p_cy k x = some (fn x)) : C_cz pre fn := sound tysOk mixed (fn := Tryz.f235) rfl rfl rfl (.cons h_cn (.cons h_cy .nil)) _ hev
end
/-! d0: iTstTest_told_c1 -/
abbrev M_d0 : List Vm.Mode := [.imm S_DecDec, .pR S_TstTest]
abbrev R_d0 : List (RK × Sh) := [(.imm, .bool)]
abbrev In_d0 : Type := (insSh M_d0).den
abbrev Out_d0 : Type := (outSh R_d0 M_d0).den
abbrev C_d0 (pre : In_d0 -> Bool) (fn : In_d0 -> Out_d0) : Prop := Sound Tryz.prog 236 ⟨M_d0, R_d0, pre, fn⟩
section
variable (g_cx : In_cx -> Out_cx)
abbrev X_d0 : Ctx := ctx tys 9 (conOf [(181, ⟨M_cx, R_cx, fun _ => true, g_cx⟩)]) (keepOf []) (fun _ => [])
noncomputable abbrev E_d0 (k : Nat) (x : In_d0) : Option Out_d0 := evFn (X_d0 g_cx) Tryz.f236 R_d0 M_d0 k x
variable {g_cx}
theorem ev_d0 (k : Nat) (x0 : Dm (.imm S_DecDec)) (x1 : Dm (.pR S_TstTest)) : E_d0 g_cx k (x0, x1, ()) =
  (some ((bif (g_cx (x1.1, (x0, ()))).1 then false else true), ())) := by kernel_rfl
theorem S_d0 (h_cx : C_cx (fun _ => true) g_cx) {pre : In_d0 -> Bool} {fn : In_d0 -> Out_d0} (hev : ∀ x, pre x = true -> ∃ k, E_d0 g_cx k x = some (fn x)) : C_d0 pre fn := sound tysOk mixed (fn := Tryz.f236) rfl rfl rfl (.cons h_cx .nil) _ hev
end
/-! d1: gIndexFunc_DecDec__iTstTest_told_c1 -/
abbrev M_d1 : List Vm.Mode := [.imm L_DecDec, .clo 236 [S_TstTest]]
abbrev R_d1 : List (RK × Sh) := [(.imm, I)]
abbrev In_d1 : Type := (insSh M_d1).den
abbrev Out_d1 : Type := (outSh R_d1 M_d1).den
abbrev C_d1 (pre : In_d1 -> Bool) (fn : In_d1 -> Out_d1) : Prop := Sound Tryz.prog 253 ⟨M_d1, R_d1, pre, fn⟩
section
variable (g_d0 : In_d0 -> Out_d0)
abbrev X_d1 : Ctx := ctx tys 19 (conOf [(236, ⟨M_d0, R_d0, fun _ => true, g_d0⟩)]) (keepOf [(pt1, (⟨[(0, .asis), (1, .asis), (7, .asis), (8, .asis)], [(1000005000, .asis)], []⟩ : Keep))]) (fun _ => [])
noncomputable abbrev E_d1 (k : Nat) (x : In_d1) : Option Out_d1 := evFn (X_d1 g_d0) Tryz.f253 R_d1 M_d1 k x
def h0_d1 (x0 : Dm (.imm L_DecDec)) (x1 : Dm (.clo 236 [S_TstTest])) (h0 : Dn I) (h1 : Dn I) : St := mkS [(0, (AV.val L_DecDec x0)), (1, (AV.fn 236 [1000005000])), (7, (AV.val I h0)), (8, (AV.val I h1))] [(1000005000, (Ob.cbox S_TstTest x1.1))]
noncomputable def r_d1 (x : In_d1) (k : Nat) (p : List Bool) (s : St) : Option Out_d1 := rounds (X_d1 g_d0) Tryz.f253 R_d1 M_d1 x k p s
variable {g_d0}
theorem ev_d1 (k : Nat) (x0 : Dm (.imm L_DecDec)) (x1 : Dm (.clo 236 [S_TstTest])) : E_d1 g_d0 k (x0, x1, ()) =
  (r_d1 g_d0 (x0, x1, ()) k pt1 (h0_d1 x0 x1 (List.length x0 : Int) (0 : Int))) := by kernel_rfl
theorem rd0_d1 (k : Nat) (x0 : Dm (.imm L_DecDec)) (x1 : Dm (.clo 236 [S_TstTest])) (h0 : Dn I) (h1 : Dn I) : r_d1 g_d0 (x0, x1, ()) (k + 1) pt1 (h0_d1 x0 x1 h0 h1) =
  (bif (decide (h1 < h0)) then (bif (bif (decide ((0 : Int) <= h1)) then (decide (h1 < (List.length x0 : Int))) else false) then (bif (g_d0 ((rdL (e := S_DecDec) x0 h1), (x1.1, ()))).1 then (some (h1, ())) else (r_d1 g_d0 (x0, x1, ()) k pt1 (h0_d1 x0 x1 h0 (w64 (h1 + (1 : Int)))))) else none) else (some ((-1 : Int), ()))) := by kernel_rfl
theorem S_d1 (h_d0 : C_d0 (fun _ => true) g_d0) {pre : In_d1 -> Bool} {fn : In_d1 -> Out_d1} (hev : ∀ x, pre x = true -> ∃ k, E_d1 g_d0 k x = some (fn x)) : C_d1 pre fn := sound tysOk mixed (fn := Tryz.f253) rfl rfl rfl (.cons h_d0 .nil) _ hev
end
/-! d2: gContainsFunc_DecDec__iTstTest_told_c1 -/
abbrev M_d2 : List Vm.Mode := [.imm L_DecDec, .clo 236 [S_TstTest]]
abbrev R_d2 : List (RK × Sh) := [(.imm, .bool)]
abbrev In_d2 : Type := (insSh M_d2).den
abbrev Out_d2 : Type := (outSh R_d2 M_d2).den
abbrev C_d2 (pre : In_d2 -> Bool) (fn : In_d2 -> Out_d2) : Prop := Sound Tryz.prog 233 ⟨M_d2, R_d2, pre, fn⟩
section
variable (g_d1 : In_d1 -> Out_d1) (p_d1 : In_d1 -> Bool)
abbrev X_d2 : Ctx := ctx tys 9 (conOf [(253, ⟨M_d1, R_d1, p_d1, g_d1⟩)]) (keepOf []) (fun _ => [])
noncomputable abbrev E_d2 (k : Nat) (x : In_d2) : Option Out_d2 := evFn (X_d2 g_d1 p_d1) Tryz.f233 R_d2 M_d2 k x
variable {g_d1 p_d1}
theorem ev_d2 (k : Nat) (x0 : Dm (.imm L_DecDec)) (x1 : Dm (.clo 236 [S_TstTest])) : E_d2 g_d1 p_d1 k (x0, x1, ()) =
  (bif (p_d1 (x0, ((x1.1, ()), ()))) then (some ((decide ((0 : Int) <= (g_d1 (x0, ((x1.1, ()), ()))).1)), ())) else none) := by kernel_rfl
theorem S_d2 (h_d1 : C_d1 p_d1 g_d1) {pre : In_d2 -> Bool} {fn : In_d2 -> Out_d2} (hev : ∀ x, pre x = true -> ∃ k, E_d2 g_d1 p_d1 k x = some (fn x)) : C_d2 pre fn := sound tysOk mixed (fn := Tryz.f233) rfl rfl rfl (.cons h_d1 .nil) _ hev
end
/-! d3: iTstTest_told -/
abbrev M_d3 : List Vm.Mode := [.imm S_TstTest]
abbrev R_d3 : List (RK × Sh) := [(.imm, I)]
abbrev In_d3 : Type := (insSh M_d3).den
abbrev Out_d3 : Type := (outSh R_d3 M_d3).den
abbrev C_d3 (pre : In_d3 -> Bool) (fn : In_d3 -> Out_d3) : Prop := Sound Tryz.prog 180 ⟨M_d3, R_d3, pre, fn⟩
section
variable (g_cx : In_cx -> Out_cx) (g_cw : In_cw -> Out_cw) (g_cz : In_cz -> Out_cz) (p_cz : In_cz -> Bool) (g_d2 : In_d2 -> Out_d2) (p_d2 : In_d2 -> Bool)
abbrev X_d3 : Ctx := ctx tys 45 (conOf [(181, ⟨M_cx, R_cx, fun _ => true, g_cx⟩), (179, ⟨M_cw, R_cw, fun _ => true, g_cw⟩), (235, ⟨M_cz, R_cz, p_cz, g_cz⟩), (233, ⟨M_d2, R_d2, p_d2, g_d2⟩)]) (keepOf []) (fun _ => [])
noncomputable abbrev E_d3 (k : Nat) (x : In_d3) : Option Out_d3 := evFn (X_d3 g_cx g_cw g_cz p_cz g_d2 p_d2) Tryz.f180 R_d3 M_d3 k x
variable {g_cx g_cw g_cz p_cz g_d2 p_d2}
theorem ev_d3 (k : Nat) (x0 : Dm (.imm S_TstTest)) : E_d3 g_cx g_cw g_cz p_cz g_d2 p_d2 k (x0, ()) =
  (bif (decide (x0.2.2.2.1 = (0 : Int))) then (bif (bif (g_cx (x0.1, (x0.2.2.1, ()))).1 then false else true) then (some ((1 : Int), ())) else (bif (decide (x0.2.2.2.1 = (0 : Int))) then (some ((3 : Int), ())) else (bif (decide ((List.length x0.2.2.2.2 : Int) < (g_cw (x0.2.2.2.1, ())).1)) then (some ((2 : Int), ())) else (bif (bif (decide (x0.2.2.2.1 = (3 : Int))) then false else true) then (bif (p_cz (x0, ())) then (bif (g_cx (x0.1, ((g_cz (x0, ())).1, ()))).1 then (bif (p_d2 (x0.2.2.2.2, ((x0, ()), ()))) then (bif (bif (g_d2 (x0.2.2.2.2, ((x0, ()), ()))).1 then false else true) then (some ((3 : Int), ())) else (some ((4 : Int), ()))) else none) else (some ((4 : Int), ()))) else none) else (some ((4 : Int), ())))))) else (bif (decide (x0.2.2.2.1 = (0 : Int))) then (some ((3 : Int), ())) else (bif (decide ((List.length x0.2.2.2.2 : Int) < (g_cw (x0.2.2.2.1, ())).1)) then (some ((2 : Int), ())) else (bif (bif (decide (x0.2.2.2.1 = (3 : Int))) then false else true) then (bif (p_cz (x0, ())) then (bif (g_cx (x0.1, ((g_cz (x0, ())).1, ()))).1 then (bif (p_d2 (x0.2.2.2.2, ((x0, ()), ()))) then (bif (bif (g_d2 (x0.2.2.2.2, ((x0, ()), ()))).1 then false else true) then (some ((3 : Int), ())) else (some ((4 : Int), ()))) else none) else (some ((4 : Int), ()))) else none) else (some ((4 : Int), ())))))) := by kernel_rfl
theorem S_d3 (h_cx : C_cx (fun _ => true) g_cx) (h_cw : C_cw (fun _ => true) g_cw) (h_cz : C_cz p_cz g_cz) (h_d2 : C_d2 p_d2 g_d2) {pre : In_d3 -> Bool} {fn : In_d3 -> Out_d3} (hev : ∀ x, pre x = true -> ∃ k, E_d3 g_cx g_cw g_cz p_cz g_d2 p_d2 k x = some (fn x)) : C_d3 pre fn := sound tysOk mixed (fn := Tryz.f180) rfl rfl rfl (.cons h_cx (.cons h_cw (.cons h_cz (.cons h_d2 .nil)))) _ hev
end
/-! d4: iTstOk -/
abbrev M_d4 : List Vm.Mode := [.imm S_TstTest]
abbrev R_d4 : List (RK × Sh) := [(.imm, .bool)]
abbrev In_d4 : Type := (insSh M_d4).den
abbrev Out_d4 : Type := (outSh R_d4 M_d4).den
abbrev C_d4 (pre : In_d4 -> Bool) (fn : In_d4 -> Out_d4) : Prop := Sound Tryz.prog 110 ⟨M_d4, R_d4, pre, fn⟩
section
variable (g_cr : In_cr -> Out_cr) (g_cl : In_cl -> Out_cl) (g_cv : In_cv -> Out_cv) (p_cv : In_cv -> Bool) (g_iin : In_iin -> Out_iin) (g_cw : In_cw -> Out_cw) (g_d3 : In_d3 -> Out_d3) (p_d3 : In_d3 -> Bool) (g_cx : In_cx -> Out_cx)
abbrev X_d4 : Ctx := ctx tys 64 (conOf [(177, ⟨M_cr, R_cr, fun _ => true, g_cr⟩), (124, ⟨M_cl, R_cl, fun _ => true, g_cl⟩), (178, ⟨M_cv, R_cv, p_cv, g_cv⟩), (72, ⟨M_iin, R_iin, fun _ => true, g_iin⟩), (179, ⟨M_cw, R_cw, fun _ => true, g_cw⟩), (180, ⟨M_d3, R_d3, p_d3, g_d3⟩), (181, ⟨M_cx, R_cx, fun _ => true, g_cx⟩)]) (keepOf []) (fun _ => [])
noncomputable abbrev E_d4 (k : Nat) (x : In_d4) : Option Out_d4 := evFn (X_d4 g_cr g_cl g_cv p_cv g_iin g_cw g_d3 p_d3 g_cx) Tryz.f110 R_d4 M_d4 k x
variable {g_cr g_cl g_cv p_cv g_iin g_cw g_d3 p_d3 g_cx}
theorem ev_d4 (k : Nat) (x0 : Dm (.imm S_TstTest)) : E_d4 g_cr g_cl g_cv p_cv g_iin g_cw g_d3 p_d3 g_cx k (x0, ()) =
  (bif (bif (g_cr (x0.1, ())).1 then false else true) then (some (false, ())) else (bif (bif (g_cl (x0.2.2.1, ())).1 then false else true) then (some (false, ())) else (bif (p_cv (x0.2.2.2.2, ())) then (bif (bif (g_cv (x0.2.2.2.2, ())).1 then false else true) then (some (false, ())) else (bif (bif (g_iin (x0.2.2.2.1, ((0 : Int), ((3 : Int), ())))).1 then false else true) then (some (false, ())) else (bif (decide ((g_cw (x0.2.2.2.1, ())).1 < (List.length x0.2.2.2.2 : Int))) then (some (false, ())) else (bif (decide (x0.2.1 = (0 : Int))) then (bif (Sh.beq S_DecDec x0.2.2.1 ((0 : Int), (0 : Int))) then (some ((decide (x0.2.2.2.1 = (0 : Int))), ())) else (some (false, ()))) else (bif (p_d3 (x0, ())) then (bif (decide (x0.2.1 = (g_d3 (x0, ())).1)) then (bif (decide (x0.2.2.2.1 = (0 : Int))) then (some (true, ())) else (some ((bif (g_cx (x0.1, (x0.2.2.1, ()))).1 then false else true), ()))) else (some (false, ()))) else none))))) else none))) := by kernel_rfl
theorem S_d4 (h_cr : C_cr (fun _ => true) g_cr) (h_cl : C_cl (fun _ => true) g_cl) (h_cv : C_cv p_cv g_cv) (h_iin : C_iin (fun _ => true) g_iin) (h_cw : C_cw (fun _ => true) g_cw) (h_d3 : C_d3 p_d3 g_d3) (h_cx : C_cx (fun _ => true) g_cx) {pre : In_d4 -> Bool} {fn : In_d4 -> Out_d4} (hev : ∀ x, pre x = true -> ∃ k, E_d4 g_cr g_cl g_cv p_cv g_iin g_cw g_d3 p_d3 g_cx k x = some (fn x)) : C_d4 pre fn := sound tysOk mixed (fn := Tryz.f110) rfl rfl rfl (.cons h_cr (.cons h_cl (.cons h_cv (.cons h_iin (.cons h_cw (.cons h_d3 (.cons h_cx .nil))))))) _ hev
end
/-! d5: iisUser -/
abbrev M_d5 : List Vm.Mode := [.imm I]
abbrev R_d5 : List (RK × Sh) := [(.imm, .bool)]
abbrev In_d5 : Type := (insSh M_d5).den
abbrev Out_d5 : Type := (outSh R_d5 M_d5).den
abbrev C_d5 (pre : In_d5 -> Bool) (fn : In_d5 -> Out_d5) : Prop := Sound Tryz.prog 117 ⟨M_d5, R_d5, pre, fn⟩
section
variable (g_iin : In_iin -> Out_iin)
abbrev X_d5 : Ctx := ctx tys 5 (conOf [(72, ⟨M_iin, R_iin, fun _ => true, g_iin⟩)]) (keepOf []) (fun _ => [])
noncomputable abbrev E_d5 (k : Nat) (x : In_d5) : Option Out_d5 := evFn (X_d5 g_iin) Tryz.f117 R_d5 M_d5 k x
variable {g_iin}
theorem ev_d5 (k : Nat) (x0 : Dm (.imm I)) : E_d5 g_iin k (x0, ()) =
  (some ((g_iin (x0, ((1 : Int), ((5 : Int), ())))).1, ())) := by kernel_rfl
theorem S_d5 (h_iin : C_iin (fun _ => true) g_iin) {pre : In_d5 -> Bool} {fn : In_d5 -> Out_d5} (hev : ∀ x, pre x = true -> ∃ k, E_d5 g_iin k x = some (fn x)) : C_d5 pre fn := sound tysOk mixed (fn := Tryz.f117) rfl rfl rfl (.cons h_iin .nil) _ hev
end
/-! d6: isigns -/
abbrev M_d6 : List Vm.Mode := [.imm I]
abbrev R_d6 : List (RK × Sh) := [(.imm, .bool)]
abbrev In_d6 : Type := (insSh M_d6).den
abbrev Out_d6 : Type := (outSh R_d6 M_d6).den
abbrev C_d6 (pre : In_d6 -> Bool) (fn : In_d6 -> Out_d6) : Prop := Sound Tryz.prog 118 ⟨M_d6, R_d6, pre, fn⟩
abbrev X_d6 : Ctx := ctx tys 9 (conOf []) (keepOf []) (fun _ => [])
noncomputable abbrev E_d6 (k : Nat) (x : In_d6) : Option Out_d6 := evFn X_d6 Tryz.f118 R_d6 M_d6 k x
theorem ev_d6 (k : Nat) (x0 : Dm (.imm I)) : E_d6 k (x0, ()) =
  (bif (decide (x0 = (2 : Int))) then (some (true, ())) else (some ((decide (x0 = (3 : Int))), ()))) := by kernel_rfl
theorem S_d6  {pre : In_d6 -> Bool} {fn : In_d6 -> Out_d6} (hev : ∀ x, pre x = true -> ∃ k, E_d6 k x = some (fn x)) : C_d6 pre fn := sound tysOk mixed (fn := Tryz.f118) rfl rfl rfl ConsOk.nil _ hev
/-! d7: iBatSig_ok -/
abbrev M_d7 : List Vm.Mode := [.imm S_BatSig]
abbrev R_d7 : List (RK × Sh) := [(.imm, .bool)]
abbrev In_d7 : Type := (insSh M_d7).den
abbrev Out_d7 : Type := (outSh R_d7 M_d7).den
abbrev C_d7 (pre : In_d7 -> Bool) (fn : In_d7 -> Out_d7) : Prop := Sound Tryz.prog 112 ⟨M_d7, R_d7, pre, fn⟩
section
variable (g_d5 : In_d5 -> Out_d5) (g_d6 : In_d6 -> Out_d6) (g_iin : In_iin -> Out_iin)
abbrev X_d7 : Ctx := ctx tys 16 (conOf [(117, ⟨M_d5, R_d5, fun _ => true, g_d5⟩), (118, ⟨M_d6, R_d6, fun _ => true, g_d6⟩), (72, ⟨M_iin, R_iin, fun _ => true, g_iin⟩)]) (keepOf []) (fun _ => [])
noncomputable abbrev E_d7 (k : Nat) (x : In_d7) : Option Out_d7 := evFn (X_d7 g_d5 g_d6 g_iin) Tryz.f112 R_d7 M_d7 k x
variable {g_d5 g_d6 g_iin}
theorem ev_d7 (k : Nat) (x0 : Dm (.imm S_BatSig)) : E_d7 g_d5 g_d6 g_iin k (x0, ()) =
  (bif (g_d5 (x0.1, ())).1 then (bif (g_d6 (x0.2.1, ())).1 then (some ((g_iin (x0.2.2, ((0 : Int), ((999982 : Int), ())))).1, ())) else (some (false, ()))) else (some (false, ()))) := by kernel_rfl
theorem S_d7 (h_d5 : C_d5 (fun _ => true) g_d5) (h_d6 : C_d6 (fun _ => true) g_d6) (h_iin : C_iin (fun _ => true) g_iin) {pre : In_d7 -> Bool} {fn : In_d7 -> Out_d7} (hev : ∀ x, pre x = true -> ∃ k, E_d7 g_d5 g_d6 g_iin k x = some (fn x)) : C_d7 pre fn := sound tysOk mixed (fn := Tryz.f112) rfl rfl rfl (.cons h_d5 (.cons h_d6 (.cons h_iin .nil))) _ hev
end
/-! d8: iBatOk_c1 -/
abbrev M_d8 : List Vm.Mode := [.imm S_BatSig]
abbrev R_d8 : List (RK × Sh) := [(.imm, .bool)]
abbrev In_d8 : Type := (insSh M_d8).den
abbrev Out_d8 : Type := (outSh R_d8 M_d8).den
abbrev C_d8 (pre : In_d8 -> Bool) (fn : In_d8 -> Out_d8) : Prop := Sound Tryz.prog 111 ⟨M_d8, R_d8, pre, fn⟩
section
variable (g_d7 : In_d7 -> Out_d7)
abbrev X_d8 : Ctx := ctx tys 6 (conOf [(112, ⟨M_d7, R_d7, fun _ => true, g_d7⟩)]) (keepOf []) (fun _ => [])
noncomputable abbrev E_d8 (k : Nat) (x : In_d8) : Option Out_d8 := evFn (X_d8 g_d7) Tryz.f111 R_d8 M_d8 k x
variable {g_d7}
theorem ev_d8 (k : Nat) (x0 : Dm (.imm S_BatSig)) : E_d8 g_d7 k (x0, ()) =
  (some ((bif (g_d7 (x0, ())).1 then false else true), ())) := by kernel_rfl
theorem S_d8 (h_d7 : C_d7 (fun _ => true) g_d7) {pre : In_d8 -> Bool} {fn : In_d8 -> Out_d8} (hev : ∀ x, pre x = true -> ∃ k, E_d8 g_d7 k x = some (fn x)) : C_d8 pre fn := sound tysOk mixed (fn := Tryz.f111) rfl rfl rfl (.cons h_d7 .nil) _ hev
end
/-! d9: gIndexFunc_BatSig__iBatOk_c1 -/
abbrev M_d9 : List Vm.Mode := [.imm L_BatSig, .clo 111 []]
abbrev R_d9 : List (RK × Sh) := [(.imm, I)]
abbrev In_d9 : Type := (insSh M_d9).den
abbrev Out_d9 : Type := (outSh R_d9 M_d9).den
abbrev C_d9 (pre : In_d9 -> Bool) (fn : In_d9 -> Out_d9) : Prop := Sound Tryz.prog 182 ⟨M_d9, R_d9, pre, fn⟩
section
variable (g_d8 : In_d8 -> Out_d8) (p_d8 : In_d8 -> Bool)
abbrev X_d9 : Ctx := ctx tys 19 (conOf [(111, ⟨M_d8, R_d8, p_d8, g_d8⟩)]) (keepOf [(pt1, (⟨[(0, .asis), (1, .asis), (7, .asis), (8, .asis)], [], []⟩ : Keep))]) (fun _ => [])
noncomputable abbrev E_d9 (k : Nat) (x : In_d9) : Option Out_d9 := evFn (X_d9 g_d8 p_d8) Tryz.f182 R_d9 M_d9 k x
def h0_d9 (x0 : Dm (.imm L_BatSig)) (x1 : Dm (.clo 111 [])) (h0 : Dn I) (h1 : Dn I) : St := mkS [(0, (AV.val L_BatSig x0)), (1, (AV.fn 111 [])), (7, (AV.val I h0)), (8, (AV.val I h1))] []
noncomputable def r_d9 (x : In_d9) (k : Nat) (p : List Bool) (s : St) : Option Out_d9 := rounds (X_d9 g_d8 p_d8) Tryz.f182 R_d9 M_d9 x k p s
variable {g_d8 p_d8}
theorem ev_d9 (k : Nat) (x0 : Dm (.imm L_BatSig)) (x1 : Dm (.clo 111 [])) : E_d9 g_d8 p_d8 k (x0, x1, ()) =
  (r_d9 g_d8 p_d8 (x0, x1, ()) k pt1 (h0_d9 x0 x1 (List.length x0 : Int) (0 : Int))) := by kernel_rfl
theorem rd0_d9 (k : Nat) (x0 : Dm (.imm L_BatSig)) (x1 : Dm (.clo 111 [])) (h0 : Dn I) (h1 : Dn I) : r_d9 g_d8 p_d8 (x0, x1, ()) (k + 1) pt1 (h0_d9 x0 x1 h0 h1) =
  (bif (decide (h1 < h0)) then (bif (bif (decide ((0 : Int) <= h1)) then (decide (h1 < (List.length x0 : Int))) else false) then (cl (p_d8 ((rdL (e := S_BatSig) x0 h1), ())) (g_d8 ((rdL (e := S_BatSig) x0 h1), ())) fun y0 => (bif y0.1 then (some (h1, ())) else (r_d9 g_d8 p_d8 (x0, x1, ()) k pt1 (h0_d9 x0 x1 h0 (w64 (h1 + (1 : Int))))))) else none) else (some ((-1 : Int), ()))) := by kernel_rfl
theorem S_d9 (h_d8 : C_d8 p_d8 g_d8) {pre : In_d9 -> Bool} {fn : In_d9 -> Out_d9} (hev : ∀ x, pre x = true -> ∃ k, E_d9 g_d8 p_d8 k x = some (fn x)) : C_d9 pre fn := sound tysOk mixed (fn := Tryz.f182) rfl rfl rfl (.cons h_d8 .nil) _ hev
end
/-! da: gContainsFunc_BatSig__iBatOk_c1 -/
abbrev M_da : List Vm.Mode := [.imm L_BatSig, .clo 111 []]
abbrev R_da : List (RK × Sh) := [(.imm, .bool)]
abbrev In_da : Type := (insSh M_da).den
abbrev Out_da : Type := (outSh R_da M_da).den
abbrev C_da (pre : In_da -> Bool) (fn : In_da -> Out_da) : Prop := Sound Tryz.prog 113 ⟨M_da, R_da, pre, fn⟩
section
variable (g_d9 : In_d9 -> Out_d9) (p_d9 : In_d9 -> Bool)
abbrev X_da : Ctx := ctx tys 9 (conOf [(182, ⟨M_d9, R_d9, p_d9, g_d9⟩)]) (keepOf []) (fun _ => [])
noncomputable abbrev E_da (k : Nat) (x : In_da) : Option Out_da := evFn (X_da g_d9 p_d9) Tryz.f113 R_da M_da k x
variable {g_d9 p_d9}
theorem ev_da (k : Nat) (x0 : Dm (.imm L_BatSig)) (x1 : Dm (.clo 111 [])) : E_da g_d9 p_d9 k (x0, x1, ()) =
  (cl (p_d9 (x0, ((), ()))) (g_d9 (x0, ((), ()))) fun y0 => (some ((decide ((0 : Int) <= y0.1)), ()))) := by kernel_rfl
theorem S_da (h_d9 : C_d9 p_d9 g_d9) {pre : In_da -> Bool} {fn : In_da -> Out_da} (hev : ∀ x, pre x = true -> ∃ k, E_da g_d9 p_d9 k x = some (fn x)) : C_da pre fn := sound tysOk mixed (fn := Tryz.f113) rfl rfl rfl (.cons h_d9 .nil) _ hev
end
/-! db: iBatOk -/
abbrev M_db : List Vm.Mode := [.imm S_BatBatch]
abbrev R_db : List (RK × Sh) := [(.imm, .bool)]
abbrev In_db : Type := (insSh M_db).den
abbrev Out_db : Type := (outSh R_db M_db).den
abbrev C_db (pre : In_db -> Bool) (fn : In_db -> Out_db) : Prop := Sound Tryz.prog 37 ⟨M_db, R_db, pre, fn⟩
section
variable (g_iin : In_iin -> Out_iin) (g_d4 : In_d4 -> Out_d4) (p_d4 : In_d4 -> Bool) (g_da : In_da -> Out_da) (p_da : In_da -> Bool) (g_ci : In_ci -> Out_ci) (p_ci : In_ci -> Bool)
abbrev X_db : Ctx := ctx tys 87 (conOf [(72, ⟨M_iin, R_iin, fun _ => true, g_iin⟩), (110, ⟨M_d4, R_d4, p_d4, g_d4⟩), (113, ⟨M_da, R_da, p_da, g_da⟩), (105, ⟨M_ci, R_ci, p_ci, g_ci⟩)]) (keepOf [(pt0, (⟨[(1, .asis), (30, .asis), (31, .asis), (32, .asis)], [(1, .asis)], []⟩ : Keep))]) (fun _ => [])
noncomputable abbrev E_db (k : Nat) (x : In_db) : Option Out_db := evFn (X_db g_iin g_d4 p_d4 g_da p_da g_ci p_ci) Tryz.f37 R_db M_db k x
def h0_db (x0 : Dm (.imm S_BatBatch)) (h0 : Dn I) (h1 : Dn I) : St := mkS [(1, (AV.ptr 1 none [])), (30, (AV.val L_TstTest x0.2.2.1)), (31, (AV.val I h0)), (32, (AV.val I h1))] [(1, (Ob.box S_BatBatch (AV.val S_BatBatch x0)))]
noncomputable def r_db (x : In_db) (k : Nat) (p : List Bool) (s : St) : Option Out_db := rounds (X_db g_iin g_d4 p_d4 g_da p_da g_ci p_ci) Tryz.f37 R_db M_db x k p s
variable {g_iin g_d4 p_d4 g_da p_da g_ci p_ci}
theorem ev_db (k : Nat) (x0 : Dm (.imm S_BatBatch)) : E_db g_iin g_d4 p_d4 g_da p_da g_ci p_ci k (x0, ()) =
  (bif (bif (g_iin (x0.1, ((0 : Int), ((5 : Int), ())))).1 then false else true) then (some (false, ())) else (bif (bif (g_iin (x0.2.1, ((1 : Int), ((10000 : Int), ())))).1 then false else true) then (some (false, ())) else (bif (bif (g_iin ((List.length x0.2.2.1 : Int), ((1 : Int), ((4 : Int), ())))).1 then false else true) then (some (false, ())) else (bif (bif (g_iin (x0.2.2.2.1, ((1 : Int), ((4 : Int), ())))).1 then false else true) then (some (false, ())) else (r_db g_iin g_d4 p_d4 g_da p_da g_ci p_ci (x0, ()) k pt0 (h0_db x0 (List.length x0.2.2.1 : Int) (0 : Int))))))) := by kernel_rfl
theorem rd0_db (k : Nat) (x0 : Dm (.imm S_BatBatch)) (h0 : Dn I) (h1 : Dn I) : r_db g_iin g_d4 p_d4 g_da p_da g_ci p_ci (x0, ()) (k + 1) pt0 (h0_db x0 h0 h1) =
  (lt (rdL (e := S_TstTest) x0.2.2.1 h1) fun s1 => (lt (w64 (h1 - (1 : Int))) fun s0 => (bif (decide (h1 < h0)) then (bif (bif (decide ((0 : Int) <= h1)) then (decide (h1 < (List.length x0.2.2.1 : Int))) else false) then (cl (p_d4 (s1, ())) (g_d4 (s1, ())) fun y0 => (bif (bif y0.1 then false else true) then (some (false, ())) else (bif (decide ((0 : Int) < h1)) then (bif (bif (decide ((0 : Int) <= s0)) then (decide (s0 < (List.length x0.2.2.1 : Int))) else false) then (bif (decide (s1.1.1 <= (rdL (e := S_TstTest) x0.2.2.1 s0).1.1)) then (some (false, ())) else (r_db g_iin g_d4 p_d4 g_da p_da g_ci p_ci (x0, ()) k pt0 (h0_db x0 h0 (w64 (h1 + (1 : Int)))))) else none) else (r_db g_iin g_d4 p_d4 g_da p_da g_ci p_ci (x0, ()) k pt0 (h0_db x0 h0 (w64 (h1 + (1 : Int)))))))) else none) else (bif (decide ((6 : Int) < (List.length x0.2.2.2.2.1 : Int))) then (some (false, ())) else (cl (p_da (x0.2.2.2.2.1, ((), ()))) (g_da (x0.2.2.2.2.1, ((), ()))) fun y1 => (bif y1.1 then (some (false, ())) else (bif (decide ((3 : Int) < (List.length x0.2.2.2.2.2 : Int))) then (some (false, ())) else (bif (bif (decide (x0.2.2.2.1 = (2 : Int))) then false else true) then (bif (bif (decide (x0.2.2.2.1 = (4 : Int))) then false else true) then (some (true, ())) else (cl (p_ci (x0, ())) (g_ci (x0, ())) fun y2 => (some (y2.1, ())))) else (cl (p_ci (x0, ())) (g_ci (x0, ())) fun y3 => (some (y3.1, ()))))))))))) := by kernel_rfl
theorem S_db (h_iin : C_iin (fun _ => true) g_iin) (h_d4 : C_d4 p_d4 g_d4) (h_da : C_da p_da g_da) (h_ci : C_ci p_ci g_ci) {pre : In_db -> Bool} {fn : In_db -> Out_db} (hev : ∀ x, pre x = true -> ∃ k, E_db g_iin g_d4 p_d4 g_da p_da g_ci p_ci k x = some (fn x)) : C_db pre fn := sound tysOk mixed (fn := Tryz.f37) rfl rfl rfl (.cons h_iin (.cons h_d4 (.cons h_da (.cons h_ci .nil)))) _ hev
end
/-! dc: iBatMove -/
abbrev M_dc : List Vm.Mode := [.imm S_BatBatch, .imm I]
abbrev R_dc : List (RK × Sh) := [(.own, S_BatBatch), (.imm, .bool)]
abbrev In_dc : Type := (insSh M_dc).den
abbrev Out_dc : Type := (outSh R_dc M_dc).den
abbrev C_dc (pre : In_dc -> Bool) (fn : In_dc -> Out_dc) : Prop := Sound Tryz.prog 39 ⟨M_dc, R_dc, pre, fn⟩
section
variable (g_c6 : In_c6 -> Out_c6) (p_c6 : In_c6 -> Bool) (g_ci : In_ci -> Out_ci) (p_ci : In_ci -> Bool) (g_db : In_db -> Out_db) (p_db : In_db -> Bool)
abbrev X_dc : Ctx := ctx tys 45 (conOf [(115, ⟨M_c6, R_c6, p_c6, g_c6⟩), (105, ⟨M_ci, R_ci, p_ci, g_ci⟩), (37, ⟨M_db, R_db, p_db, g_db⟩)]) (keepOf []) (fun _ => [])
noncomputable abbrev E_dc (k : Nat) (x : In_dc) : Option Out_dc := evFn (X_dc g_c6 p_c6 g_ci p_ci g_db p_db) Tryz.f39 R_dc M_dc k x
variable {g_c6 p_c6 g_ci p_ci g_db p_db}
theorem ev_dc (k : Nat) (x0 : Dm (.imm S_BatBatch)) (x1 : Dm (.imm I)) : E_dc g_c6 p_c6 g_ci p_ci g_db p_db k (x0, x1, ()) =
  (cl (p_c6 (x0, ())) (g_c6 (x0, ())) fun y0 => (bif (decide (x0.2.2.2.1 = (1 : Int))) then (bif (decide (x1 = (3 : Int))) then (cl (p_db (x0, ())) (g_db (x0, ())) fun y1 => (bif (bif y1.1 then false else true) then (some (y0.1, (false, ()))) else (some ((y0.1.1, (y0.1.2.1, (y0.1.2.2.1, (x1, y0.1.2.2.2.2)))), (true, ()))))) else (bif (decide (x1 = (2 : Int))) then (cl (p_ci (x0, ())) (g_ci (x0, ())) fun y2 => (bif y2.1 then (cl (p_db (x0, ())) (g_db (x0, ())) fun y3 => (bif (bif y3.1 then false else true) then (some (y0.1, (false, ()))) else (some ((y0.1.1, (y0.1.2.1, (y0.1.2.2.1, (x1, y0.1.2.2.2.2)))), (true, ()))))) else (bif (decide (x0.2.2.2.1 = (2 : Int))) then (cl (p_db (x0, ())) (g_db (x0, ())) fun y4 => (bif (bif y4.1 then false else true) then (some (y0.1, (false, ()))) else (bif (bif (decide (x1 = (4 : Int))) then false else true) then (some (y0.1, (false, ()))) else (some ((y0.1.1, (y0.1.2.1, (y0.1.2.2.1, (x1, y0.1.2.2.2.2)))), (true, ())))))) else (cl (p_db (x0, ())) (g_db (x0, ())) fun y5 => (bif (bif y5.1 then false else true) then (some (y0.1, (false, ()))) else (some (y0.1, (false, ())))))))) else (bif (decide (x0.2.2.2.1 = (2 : Int))) then (cl (p_db (x0, ())) (g_db (x0, ())) fun y6 => (bif (bif y6.1 then false else true) then (some (y0.1, (false, ()))) else (bif (bif (decide (x1 = (4 : Int))) then false else true) then (some (y0.1, (false, ()))) else (some ((y0.1.1, (y0.1.2.1, (y0.1.2.2.1, (x1, y0.1.2.2.2.2)))), (true, ())))))) else (cl (p_db (x0, ())) (g_db (x0, ())) fun y7 => (bif (bif y7.1 then false else true) then (some (y0.1, (false, ()))) else (some (y0.1, (false, ())))))))) else (bif (decide (x0.2.2.2.1 = (2 : Int))) then (cl (p_db (x0, ())) (g_db (x0, ())) fun y8 => (bif (bif y8.1 then false else true) then (some (y0.1, (false, ()))) else (bif (bif (decide (x1 = (4 : Int))) then false else true) then (some (y0.1, (false, ()))) else (some ((y0.1.1, (y0.1.2.1, (y0.1.2.2.1, (x1, y0.1.2.2.2.2)))), (true, ())))))) else (cl (p_db (x0, ())) (g_db (x0, ())) fun y9 => (bif (bif y9.1 then false else true) then (some (y0.1, (false, ()))) else (some (y0.1, (false, ())))))))) := by kernel_rfl
theorem S_dc (h_c6 : C_c6 p_c6 g_c6) (h_ci : C_ci p_ci g_ci) (h_db : C_db p_db g_db) {pre : In_dc -> Bool} {fn : In_dc -> Out_dc} (hev : ∀ x, pre x = true -> ∃ k, E_dc g_c6 p_c6 g_ci p_ci g_db p_db k x = some (fn x)) : C_dc pre fn := sound tysOk mixed (fn := Tryz.f39) rfl rfl rfl (.cons h_c6 (.cons h_ci (.cons h_db .nil))) _ hev
end
/-! dd: lcuDecs -/
abbrev M_dd : List Vm.Mode := [.imm L_DecDec, .imm L_DecDec]
abbrev R_dd : List (RK × Sh) := [(.imm, .bool)]
abbrev In_dd : Type := (insSh M_dd).den
abbrev Out_dd : Type := (outSh R_dd M_dd).den
abbrev C_dd (pre : In_dd -> Bool) (fn : In_dd -> Out_dd) : Prop := Sound Tryz.prog 122 ⟨M_dd, R_dd, pre, fn⟩
abbrev X_dd : Ctx := ctx tys 26 (conOf []) (keepOf [(pt0, (⟨[(0, .asis), (1, .asis), (5, .asis)], [], []⟩ : Keep))]) (fun _ => [])
noncomputable abbrev E_dd (k : Nat) (x : In_dd) : Option Out_dd := evFn X_dd Tryz.f122 R_dd M_dd k x
def h0_dd (x0 : Dm (.imm L_DecDec)) (x1 : Dm (.imm L_DecDec)) (h0 : Dn I) : St := mkS [(0, (AV.val L_DecDec x0)), (1, (AV.val L_DecDec x1)), (5, (AV.val I h0))] []
noncomputable def r_dd (x : In_dd) (k : Nat) (p : List Bool) (s : St) : Option Out_dd := rounds X_dd Tryz.f122 R_dd M_dd x k p s
theorem ev_dd (k : Nat) (x0 : Dm (.imm L_DecDec)) (x1 : Dm (.imm L_DecDec)) : E_dd k (x0, x1, ()) =
  (bif (bif (decide ((List.length x0 : Int) = (List.length x1 : Int))) then false else true) then (some (false, ())) else (r_dd  (x0, x1, ()) k pt0 (h0_dd x0 x1 (0 : Int)))) := by kernel_rfl
theorem rd0_dd (k : Nat) (x0 : Dm (.imm L_DecDec)) (x1 : Dm (.imm L_DecDec)) (h0 : Dn I) : r_dd  (x0, x1, ()) (k + 1) pt0 (h0_dd x0 x1 h0) =
  (bif (decide (h0 < (List.length x0 : Int))) then (bif (bif (decide ((0 : Int) <= h0)) then (decide (h0 < (List.length x0 : Int))) else false) then (bif (bif (decide ((0 : Int) <= h0)) then (decide (h0 < (List.length x1 : Int))) else false) then (bif (bif (Sh.beq S_DecDec (rdL (e := S_DecDec) x0 h0) (rdL (e := S_DecDec) x1 h0)) then false else true) then (some (false, ())) else (r_dd  (x0, x1, ()) k pt0 (h0_dd x0 x1 (w64 (h0 + (1 : Int)))))) else none) else none) else (some (true, ()))) := by kernel_rfl
theorem S_dd  {pre : In_dd -> Bool} {fn : In_dd -> Out_dd} (hev : ∀ x, pre x = true -> ∃ k, E_dd k x = some (fn x)) : C_dd pre fn := sound tysOk mixed (fn := Tryz.f122) rfl rfl rfl ConsOk.nil _ hev
/-! de: lcuTest -/
abbrev M_de : List Vm.Mode := [.imm S_TstTest, .imm S_TstTest]
abbrev R_de : List (RK × Sh) := [(.imm, .bool)]
abbrev In_de : Type := (insSh M_de).den
abbrev Out_de : Type := (outSh R_de M_de).den
abbrev C_de (pre : In_de -> Bool) (fn : In_de -> Out_de) : Prop := Sound Tryz.prog 48 ⟨M_de, R_de, pre, fn⟩
section
variable (g_dd : In_dd -> Out_dd) (p_dd : In_dd -> Bool)
abbrev X_de : Ctx := ctx tys 38 (conOf [(122, ⟨M_dd, R_dd, p_dd, g_dd⟩)]) (keepOf []) (fun _ => [])
noncomputable abbrev E_de (k : Nat) (x : In_de) : Option Out_de := evFn (X_de g_dd p_dd) Tryz.f48 R_de M_de k x
variable {g_dd p_dd}
theorem ev_de (k : Nat) (x0 : Dm (.imm S_TstTest)) (x1 : Dm (.imm S_TstTest)) : E_de g_dd p_dd k (x0, x1, ()) =
  (bif (Sh.beq S_SpcTest x0.1 x1.1) then (bif (decide (x0.2.1 = x1.2.1)) then (bif (Sh.beq S_DecDec x0.2.2.1 x1.2.2.1) then (bif (decide (x0.2.2.2.1 = x1.2.2.2.1)) then (bif (p_dd (x0.2.2.2.2, (x1.2.2.2.2, ()))) then (some ((g_dd (x0.2.2.2.2, (x1.2.2.2.2, ()))).1, ())) else none) else (some (false, ()))) else (some (false, ()))) else (some (false, ()))) else (some (false, ()))) := by kernel_rfl
theorem S_de (h_dd : C_dd p_dd g_dd) {pre : In_de -> Bool} {fn : In_de -> Out_de} (hev : ∀ x, pre x = true -> ∃ k, E_de g_dd p_dd k x = some (fn x)) : C_de pre fn := sound tysOk mixed (fn := Tryz.f48) rfl rfl rfl (.cons h_dd .nil) _ hev
end
/-! df: lcuBatch -/
abbrev M_df : List Vm.Mode := [.imm S_BatBatch, .imm S_BatBatch]
abbrev R_df : List (RK × Sh) := [(.imm, .bool)]
abbrev In_df : Type := (insSh M_df).den
abbrev Out_df : Type := (outSh R_df M_df).den
abbrev C_df (pre : In_df -> Bool) (fn : In_df -> Out_df) : Prop := Sound Tryz.prog 41 ⟨M_df, R_df, pre, fn⟩
section
variable (g_de : In_de -> Out_de) (p_de : In_de -> Bool)
abbrev X_df : Ctx := ctx tys 109 (conOf [(48, ⟨M_de, R_de, p_de, g_de⟩)]) (keepOf [(pt8, (⟨[(2, .asis), (3, .asis), (7, .asis)], [(2, .asis), (3, .asis)], []⟩ : Keep)), (pt2, (⟨[(2, .asis), (3, .asis), (6, .asis)], [(2, .asis), (3, .asis)], []⟩ : Keep)), (pt0, (⟨[(2, .asis), (3, .asis), (5, .asis)], [(2, .asis), (3, .asis)], []⟩ : Keep))]) (fun _ => [])
noncomputable abbrev E_df (k : Nat) (x : In_df) : Option Out_df := evFn (X_df g_de p_de) Tryz.f41 R_df M_df k x
def h0_df (x0 : Dm (.imm S_BatBatch)) (x1 : Dm (.imm S_BatBatch)) (h0 : Dn I) : St := mkS [(2, (AV.ptr 2 none [])), (3, (AV.ptr 3 none [])), (5, (AV.val I h0))] [(2, (Ob.box S_BatBatch (AV.val S_BatBatch x0))), (3, (Ob.box S_BatBatch (AV.val S_BatBatch x1)))]
def h1_df (x0 : Dm (.imm S_BatBatch)) (x1 : Dm (.imm S_BatBatch)) (h0 : Dn I) : St := mkS [(2, (AV.ptr 2 none [])), (3, (AV.ptr 3 none [])), (6, (AV.val I h0))] [(2, (Ob.box S_BatBatch (AV.val S_BatBatch x0))), (3, (Ob.box S_BatBatch (AV.val S_BatBatch x1)))]
def h2_df (x0 : Dm (.imm S_BatBatch)) (x1 : Dm (.imm S_BatBatch)) (h0 : Dn I) : St := mkS [(2, (AV.ptr 2 none [])), (3, (AV.ptr 3 none [])), (7, (AV.val I h0))] [(2, (Ob.box S_BatBatch (AV.val S_BatBatch x0))), (3, (Ob.box S_BatBatch (AV.val S_BatBatch x1)))]
noncomputable def r_df (x : In_df) (k : Nat) (p : List Bool) (s : St) : Option Out_df := rounds (X_df g_de p_de) Tryz.f41 R_df M_df x k p s
variable {g_de p_de}
theorem ev_df (k : Nat) (x0 : Dm (.imm S_BatBatch)) (x1 : Dm (.imm S_BatBatch)) : E_df g_de p_de k (x0, x1, ()) =
  (bif (bif (decide (x0.1 = x1.1)) then false else true) then (some (false, ())) else (bif (bif (decide (x0.2.1 = x1.2.1)) then false else true) then (some (false, ())) else (bif (bif (decide (x0.2.2.2.1 = x1.2.2.2.1)) then false else true) then (some (false, ())) else (bif (bif (decide ((List.length x0.2.2.1 : Int) = (List.length x1.2.2.1 : Int))) then false else true) then (some (false, ())) else (bif (bif (decide ((List.length x0.2.2.2.2.1 : Int) = (List.length x1.2.2.2.2.1 : Int))) then false else true) then (some (false, ())) else (bif (bif (decide ((List.length x0.2.2.2.2.2 : Int) = (List.length x1.2.2.2.2.2 : Int))) then false else true) then (some (false, ())) else (r_df g_de p_de (x0, x1, ()) k pt0 (h0_df x0 x1 (0 : Int))))))))) := by kernel_rfl
theorem rd0_df (k : Nat) (x0 : Dm (.imm S_BatBatch)) (x1 : Dm (.imm S_BatBatch)) (h0 : Dn I) : r_df g_de p_de (x0, x1, ()) (k + 1) pt0 (h0_df x0 x1 h0) =
  (bif (decide (h0 < (List.length x0.2.2.1 : Int))) then (bif (bif (decide ((0 : Int) <= h0)) then (decide (h0 < (List.length x0.2.2.1 : Int))) else false) then (bif (bif (decide ((0 : Int) <= h0)) then (decide (h0 < (List.length x1.2.2.1 : Int))) else false) then (cl (p_de ((rdL (e := S_TstTest) x0.2.2.1 h0), ((rdL (e := S_TstTest) x1.2.2.1 h0), ()))) (g_de ((rdL (e := S_TstTest) x0.2.2.1 h0), ((rdL (e := S_TstTest) x1.2.2.1 h0), ()))) fun y0 => (bif (bif y0.1 then false else true) then (some (false, ())) else (r_df g_de p_de (x0, x1, ()) k pt0 (h0_df x0 x1 (w64 (h0 + (1 : Int))))))) else none) else none) else (r_df g_de p_de (x0, x1, ()) k pt2 (h1_df x0 x1 (0 : Int)))) := by kernel_rfl
theorem rd1_df (k : Nat) (x0 : Dm (.imm S_BatBatch)) (x1 : Dm (.imm S_BatBatch)) (h0 : Dn I) : r_df g_de p_de (x0, x1, ()) (k + 1) pt2 (h1_df x0 x1 h0) =
  (bif (decide (h0 < (List.length x0.2.2.2.2.1 : Int))) then (bif (bif (decide ((0 : Int) <= h0)) then (decide (h0 < (List.length x0.2.2.2.2.1 : Int))) else false) then (bif (bif (decide ((0 : Int) <= h0)) then (decide (h0 < (List.length x1.2.2.2.2.1 : Int))) else false) then (bif (bif (Sh.beq S_BatSig (rdL (e := S_BatSig) x0.2.2.2.2.1 h0) (rdL (e := S_BatSig) x1.2.2.2.2.1 h0)) then false else true) then (some (false, ())) else (r_df g_de p_de (x0, x1, ()) k pt2 (h1_df x0 x1 (w64 (h0 + (1 : Int)))))) else none) else none) else (r_df g_de p_de (x0, x1, ()) k pt8 (h2_df x0 x1 (0 : Int)))) := by kernel_rfl
theorem rd2_df (k : Nat) (x0 : Dm (.imm S_BatBatch)) (x1 : Dm (.imm S_BatBatch)) (h0 : Dn I) : r_df g_de p_de (x0, x1, ()) (k + 1) pt8 (h2_df x0 x1 h0) =
  (bif (decide (h0 < (List.length x0.2.2.2.2.2 : Int))) then (bif (bif (decide ((0 : Int) <= h0)) then (decide (h0 < (List.length x0.2.2.2.2.2 : Int))) else false) then (bif (bif (decide ((0 : Int) <= h0)) then (decide (h0 < (List.length x1.2.2.2.2.2 : Int))) else false) then (bif (bif ((rdL (e := Sh.bool) x0.2.2.2.2.2 h0) == (rdL (e := Sh.bool) x1.2.2.2.2.2 h0)) then false else true) then (some (false, ())) else (r_df g_de p_de (x0, x1, ()) k pt8 (h2_df x0 x1 (w64 (h0 + (1 : Int)))))) else none) else none) else (some (true, ()))) := by kernel_rfl
theorem S_df (h_de : C_de p_de g_de) {pre : In_df -> Bool} {fn : In_df -> Out_df} (hev : ∀ x, pre x = true -> ∃ k, E_df g_de p_de k x = some (fn x)) : C_df pre fn := sound tysOk mixed (fn := Tryz.f41) rfl rfl rfl (.cons h_de .nil) _ hev
end
/-! dg: iBatGate -/
abbrev M_dg : List Vm.Mode := [.imm S_BatBatch]
abbrev R_dg : List (RK × Sh) := [(.imm, .bool)]
abbrev In_dg : Type := (insSh M_dg).den
abbrev Out_dg : Type := (outSh R_dg M_dg).den
abbrev C_dg (pre : In_dg -> Bool) (fn : In_dg -> Out_dg) : Prop := Sound Tryz.prog 31 ⟨M_dg, R_dg, pre, fn⟩
section
variable (g_db : In_db -> Out_db) (p_db : In_db -> Bool) (g_ci : In_ci -> Out_ci) (p_ci : In_ci -> Bool)
abbrev X_dg : Ctx := ctx tys 9 (conOf [(37, ⟨M_db, R_db, p_db, g_db⟩), (105, ⟨M_ci, R_ci, p_ci, g_ci⟩)]) (keepOf []) (fun _ => [])
noncomputable abbrev E_dg (k : Nat) (x : In_dg) : Option Out_dg := evFn (X_dg g_db p_db g_ci p_ci) Tryz.f31 R_dg M_dg k x
variable {g_db p_db g_ci p_ci}
theorem ev_dg (k : Nat) (x0 : Dm (.imm S_BatBatch)) : E_dg g_db p_db g_ci p_ci k (x0, ()) =
  (cl (p_db (x0, ())) (g_db (x0, ())) fun y0 => (bif y0.1 then (cl (p_ci (x0, ())) (g_ci (x0, ())) fun y1 => (some (y1.1, ()))) else (some (false, ())))) := by kernel_rfl
theorem S_dg (h_db : C_db p_db g_db) (h_ci : C_ci p_ci g_ci) {pre : In_dg -> Bool} {fn : In_dg -> Out_dg} (hev : ∀ x, pre x = true -> ∃ k, E_dg g_db p_db g_ci p_ci k x = some (fn x)) : C_dg pre fn := sound tysOk mixed (fn := Tryz.f31) rfl rfl rfl (.cons h_db (.cons h_ci .nil)) _ hev
end
/-! dh: iDayLeap -/
abbrev M_dh : List Vm.Mode := [.imm I]
abbrev R_dh : List (RK × Sh) := [(.imm, .bool)]
abbrev In_dh : Type := (insSh M_dh).den
abbrev Out_dh : Type := (outSh R_dh M_dh).den
abbrev C_dh (pre : In_dh -> Bool) (fn : In_dh -> Out_dh) : Prop := Sound Tryz.prog 231 ⟨M_dh, R_dh, pre, fn⟩
abbrev X_dh : Ctx := ctx tys 16 (conOf []) (keepOf []) (fun _ => [])
noncomputable abbrev E_dh (k : Nat) (x : In_dh) : Option Out_dh := evFn X_dh Tryz.f231 R_dh M_dh k x
theorem ev_dh (k : Nat) (x0 : Dm (.imm I)) : E_dh k (x0, ()) =
  (bif (bif (decide ((4 : Int) = (0 : Int))) then false else true) then (bif (decide ((Int.tmod x0 (4 : Int)) = (0 : Int))) then (bif (bif (decide ((100 : Int) = (0 : Int))) then false else true) then (bif (bif (decide ((Int.tmod x0 (100 : Int)) = (0 : Int))) then false else true) then (some (true, ())) else (bif (bif (decide ((400 : Int) = (0 : Int))) then false else true) then (some ((decide ((Int.tmod x0 (400 : Int)) = (0 : Int))), ())) else none)) else none) else (some (false, ()))) else none) := by kernel_rfl
theorem S_dh  {pre : In_dh -> Bool} {fn : In_dh -> Out_dh} (hev : ∀ x, pre x = true -> ∃ k, E_dh k x = some (fn x)) : C_dh pre fn := sound tysOk mixed (fn := Tryz.f231) rfl rfl rfl ConsOk.nil _ hev
/-! di: iDayLast -/
abbrev M_di : List Vm.Mode := [.imm I, .imm I]
abbrev R_di : List (RK × Sh) := [(.imm, I)]
abbrev In_di : Type := (insSh M_di).den
abbrev Out_di : Type := (outSh R_di M_di).den
abbrev C_di (pre : In_di -> Bool) (fn : In_di -> Out_di) : Prop := Sound Tryz.prog 176 ⟨M_di, R_di, pre, fn⟩
section
variable (g_iin : In_iin -> Out_iin) (g_dh : In_dh -> Out_dh)
abbrev X_di : Ctx := ctx tys 20 (conOf [(72, ⟨M_iin, R_iin, fun _ => true, g_iin⟩), (231, ⟨M_dh, R_dh, fun _ => true, g_dh⟩)]) (keepOf []) (fun _ => [])
noncomputable abbrev E_di (k : Nat) (x : In_di) : Option Out_di := evFn (X_di g_iin g_dh) Tryz.f176 R_di M_di k x
variable {g_iin g_dh}
theorem ev_di (k : Nat) (x0 : Dm (.imm I)) (x1 : Dm (.imm I)) : E_di g_iin g_dh k (x0, x1, ()) =
  (bif (bif (g_iin (x1, ((1 : Int), ((12 : Int), ())))).1 then false else true) then (some ((0 : Int), ())) else (bif (decide (x1 = (2 : Int))) then (bif (g_dh (x0, ())).1 then (some ((29 : Int), ())) else none) else none)) := by kernel_rfl
theorem S_di (h_iin : C_iin (fun _ => true) g_iin) (h_dh : C_dh (fun _ => true) g_dh) {pre : In_di -> Bool} {fn : In_di -> Out_di} (hev : ∀ x, pre x = true -> ∃ k, E_di g_iin g_dh k x = some (fn x)) : C_di pre fn := sound tysOk mixed (fn := Tryz.f176) rfl rfl rfl (.cons h_iin (.cons h_dh .nil)) _ hev
end
/-! dj: iDayOk -/
abbrev M_dj : List Vm.Mode := [.imm S_BatSig]
abbrev R_dj : List (RK × Sh) := [(.imm, .bool)]
abbrev In_dj : Type := (insSh M_dj).den
abbrev Out_dj : Type := (outSh R_dj M_dj).den
abbrev C_dj (pre : In_dj -> Bool) (fn : In_dj -> Out_dj) : Prop := Sound Tryz.prog 108 ⟨M_dj, R_dj, pre, fn⟩
section
variable (g_iin : In_iin -> Out_iin) (g_di : In_di -> Out_di) (p_di : In_di -> Bool)
abbrev X_dj : Ctx := ctx tys 16 (conOf [(72, ⟨M_iin, R_iin, fun _ => true, g_iin⟩), (176, ⟨M_di, R_di, p_di, g_di⟩)]) (keepOf []) (fun _ => [])
noncomputable abbrev E_dj (k : Nat) (x : In_dj) : Option Out_dj := evFn (X_dj g_iin g_di p_di) Tryz.f108 R_dj M_dj k x
variable {g_iin g_di p_di}
theorem ev_dj (k : Nat) (x0 : Dm (.imm S_BatSig)) : E_dj g_iin g_di p_di k (x0, ()) =
  (bif (g_iin (x0.1, ((1900 : Int), ((2199 : Int), ())))).1 then (bif (p_di (x0.1, (x0.2.1, ()))) then (some ((g_iin (x0.2.2, ((1 : Int), ((g_di (x0.1, (x0.2.1, ()))).1, ())))).1, ())) else none) else (some (false, ()))) := by kernel_rfl
theorem S_dj (h_iin : C_iin (fun _ => true) g_iin) (h_di : C_di p_di g_di) {pre : In_dj -> Bool} {fn : In_dj -> Out_dj} (hev : ∀ x, pre x = true -> ∃ k, E_dj g_iin g_di p_di k x = some (fn x)) : C_dj pre fn := sound tysOk mixed (fn := Tryz.f108) rfl rfl rfl (.cons h_iin (.cons h_di .nil)) _ hev
end
/-! dk: lcuOk -/
abbrev M_dk : List Vm.Mode := []
abbrev R_dk : List (RK × Sh) := [(.imm, .bool)]
abbrev In_dk : Type := (insSh M_dk).den
abbrev Out_dk : Type := (outSh R_dk M_dk).den
abbrev C_dk (pre : In_dk -> Bool) (fn : In_dk -> Out_dk) : Prop := Sound Tryz.prog 34 ⟨M_dk, R_dk, pre, fn⟩
section
variable (g_dj : In_dj -> Out_dj) (p_dj : In_dj -> Bool)
abbrev X_dk : Ctx := ctx tys 3 (conOf [(108, ⟨M_dj, R_dj, p_dj, g_dj⟩)]) (keepOf []) (fun _ => [])
noncomputable abbrev E_dk (k : Nat) (x : In_dk) : Option Out_dk := evFn (X_dk g_dj p_dj) Tryz.f34 R_dk M_dk k x
variable {g_dj p_dj}
theorem ev_dk (k : Nat)  : E_dk g_dj p_dj k (()) =
  (bif (p_dj (((2000 : Int), ((2 : Int), (29 : Int))), ())) then (some ((g_dj (((2000 : Int), ((2 : Int), (29 : Int))), ())).1, ())) else none) := by kernel_rfl
theorem S_dk (h_dj : C_dj p_dj g_dj) {pre : In_dk -> Bool} {fn : In_dk -> Out_dk} (hev : ∀ x, pre x = true -> ∃ k, E_dk g_dj p_dj k x = some (fn x)) : C_dk pre fn := sound tysOk mixed (fn := Tryz.f34) rfl rfl rfl (.cons h_dj .nil) _ hev
end
/-! lFnBatMove -/
abbrev M_lFnBatMove : List Vm.Mode := [.imm L_u8]
abbrev R_lFnBatMove : List (RK × Sh) := [(.own, .bool)]
abbrev In_lFnBatMove : Type := (insSh M_lFnBatMove).den
abbrev Out_lFnBatMove : Type := (outSh R_lFnBatMove M_lFnBatMove).den
abbrev C_lFnBatMove (pre : In_lFnBatMove -> Bool) (fn : In_lFnBatMove -> Out_lFnBatMove) : Prop := Sound Tryz.prog 8 ⟨M_lFnBatMove, R_lFnBatMove, pre, fn⟩
section
variable (g_c1 : In_c1 -> Out_c1) (p_c1 : In_c1 -> Bool) (g_dc : In_dc -> Out_dc) (p_dc : In_dc -> Bool) (g_bj : In_bj -> Out_bj) (p_bj : In_bj -> Bool) (g_df : In_df -> Out_df) (p_df : In_df -> Bool) (g_bb : In_bb -> Out_bb) (p_bb : In_bb -> Bool) (g_dg : In_dg -> Out_dg) (p_dg : In_dg -> Bool) (g_dk : In_dk -> Out_dk) (g_db : In_db -> Out_db) (p_db : In_db -> Bool)
abbrev X_lFnBatMove : Ctx := ctx tys 100 (conOf [(38, ⟨M_c1, R_c1, p_c1, g_c1⟩), (39, ⟨M_dc, R_dc, p_dc, g_dc⟩), (40, ⟨M_bj, R_bj, p_bj, g_bj⟩), (41, ⟨M_df, R_df, p_df, g_df⟩), (33, ⟨M_bb, R_bb, p_bb, g_bb⟩), (31, ⟨M_dg, R_dg, p_dg, g_dg⟩), (34, ⟨M_dk, R_dk, fun _ => true, g_dk⟩), (37, ⟨M_db, R_db, p_db, g_db⟩)]) (keepOf []) (fun _ => [])
noncomputable abbrev E_lFnBatMove (k : Nat) (x : In_lFnBatMove) : Option Out_lFnBatMove := evFn (X_lFnBatMove g_c1 p_c1 g_dc p_dc g_bj p_bj g_df p_df g_bb p_bb g_dg p_dg g_dk g_db p_db) Tryz.f8 R_lFnBatMove M_lFnBatMove k x
variable {g_c1 p_c1 g_dc p_dc g_bj p_bj g_df p_df g_bb p_bb g_dg p_dg g_dk g_db p_db}
theorem ev_lFnBatMove (k : Nat) (x0 : Dm (.imm L_u8)) : E_lFnBatMove g_c1 p_c1 g_dc p_dc g_bj p_bj g_df p_df g_bb p_bb g_dg p_dg g_dk g_db p_db k (x0, ()) =
  (bif (decide ((1048576 : Int) < (List.length x0 : Int))) then (some (true, ())) else (cl (p_c1 (x0, ())) (g_c1 (x0, ())) fun y0 => (cl (p_dc (y0.1, (y0.2.1, ()))) (g_dc (y0.1, (y0.2.1, ()))) fun y1 => (cl (p_bj (y0.1, (y0.2.1, ()))) (g_bj (y0.1, (y0.2.1, ()))) fun y2 => (cl (p_df (y1.1, (y2.1, ()))) (g_df (y1.1, (y2.1, ()))) fun y3 => (bif (bif y3.1 then false else true) then (some (false, ())) else (bif (bif (y1.2.1 == y2.2.1) then false else true) then (some (false, ())) else (cl (p_bb (y0.1, ())) (g_bb (y0.1, ())) fun y4 => (bif y4.1 then (bif (decide (y0.1.2.2.2.1 = (1 : Int))) then (bif (decide (y0.2.1 = (3 : Int))) then (bif (bif y1.2.1 then false else true) then (cl (p_df (y1.1, (y0.1, ()))) (g_df (y1.1, (y0.1, ()))) fun y5 => (bif y5.1 then (some (false, ())) else (some (false, ())))) else (bif (decide (y1.1.2.2.2.1 = y0.2.1)) then (cl (p_df ((y1.1.1, (y1.1.2.1, (y1.1.2.2.1, (y0.1.2.2.2.1, y1.1.2.2.2.2)))), (y0.1, ()))) (g_df ((y1.1.1, (y1.1.2.1, (y1.1.2.2.1, (y0.1.2.2.2.1, y1.1.2.2.2.2)))), (y0.1, ()))) fun y6 => (bif y6.1 then (cl (p_db (y1.1, ())) (g_db (y1.1, ())) fun y7 => (some (y7.1, ()))) else (some (false, ())))) else (some (false, ())))) else (bif (decide (y0.2.1 = (2 : Int))) then (cl (p_dg (y0.1, ())) (g_dg (y0.1, ())) fun y8 => (bif y8.1 then (bif (bif y1.2.1 then false else true) then (cl (p_df (y1.1, (y0.1, ()))) (g_df (y1.1, (y0.1, ()))) fun y9 => (bif y9.1 then (some (false, ())) else (some (false, ())))) else (bif (decide (y1.1.2.2.2.1 = y0.2.1)) then (cl (p_df ((y1.1.1, (y1.1.2.1, (y1.1.2.2.1, (y0.1.2.2.2.1, y1.1.2.2.2.2)))), (y0.1, ()))) (g_df ((y1.1.1, (y1.1.2.1, (y1.1.2.2.1, (y0.1.2.2.2.1, y1.1.2.2.2.2)))), (y0.1, ()))) fun y10 => (bif y10.1 then (cl (p_db (y1.1, ())) (g_db (y1.1, ())) fun y11 => (some (y11.1, ()))) else (some (false, ())))) else (some (false, ())))) else (bif (decide (y0.1.2.2.2.1 = (2 : Int))) then (bif (bif y1.2.1 then false else true) then (cl (p_df (y1.1, (y0.1, ()))) (g_df (y1.1, (y0.1, ()))) fun y12 => (bif y12.1 then (bif (bif (decide (y0.2.1 = (4 : Int))) then false else true) then (some ((g_dk ()).1, ())) else (some (false, ()))) else (some (false, ())))) else (bif (decide (y0.2.1 = (4 : Int))) then (bif (decide (y1.1.2.2.2.1 = y0.2.1)) then (cl (p_df ((y1.1.1, (y1.1.2.1, (y1.1.2.2.1, (y0.1.2.2.2.1, y1.1.2.2.2.2)))), (y0.1, ()))) (g_df ((y1.1.1, (y1.1.2.1, (y1.1.2.2.1, (y0.1.2.2.2.1, y1.1.2.2.2.2)))), (y0.1, ()))) fun y13 => (bif y13.1 then (cl (p_db (y1.1, ())) (g_db (y1.1, ())) fun y14 => (some (y14.1, ()))) else (some (false, ())))) else (some (false, ()))) else (some (false, ())))) else (bif (bif y1.2.1 then false else true) then (cl (p_df (y1.1, (y0.1, ()))) (g_df (y1.1, (y0.1, ()))) fun y15 => (bif y15.1 then (some ((g_dk ()).1, ())) else (some (false, ())))) else (some (false, ())))))) else (bif (decide (y0.1.2.2.2.1 = (2 : Int))) then (bif (bif y1.2.1 then false else true) then (cl (p_df (y1.1, (y0.1, ()))) (g_df (y1.1, (y0.1, ()))) fun y16 => (bif y16.1 then (bif (bif (decide (y0.2.1 = (4 : Int))) then false else true) then (some ((g_dk ()).1, ())) else (some (false, ()))) else (some (false, ())))) else (bif (decide (y0.2.1 = (4 : Int))) then (bif (decide (y1.1.2.2.2.1 = y0.2.1)) then (cl (p_df ((y1.1.1, (y1.1.2.1, (y1.1.2.2.1, (y0.1.2.2.2.1, y1.1.2.2.2.2)))), (y0.1, ()))) (g_df ((y1.1.1, (y1.1.2.1, (y1.1.2.2.1, (y0.1.2.2.2.1, y1.1.2.2.2.2)))), (y0.1, ()))) fun y17 => (bif y17.1 then (cl (p_db (y1.1, ())) (g_db (y1.1, ())) fun y18 => (some (y18.1, ()))) else (some (false, ())))) else (some (false, ()))) else (some (false, ())))) else (bif (bif y1.2.1 then false else true) then (cl (p_df (y1.1, (y0.1, ()))) (g_df (y1.1, (y0.1, ()))) fun y19 => (bif y19.1 then (some ((g_dk ()).1, ())) else (some (false, ())))) else (some (false, ())))))) else (bif (decide (y0.1.2.2.2.1 = (2 : Int))) then (bif (bif y1.2.1 then false else true) then (cl (p_df (y1.1, (y0.1, ()))) (g_df (y1.1, (y0.1, ()))) fun y20 => (bif y20.1 then (bif (bif (decide (y0.2.1 = (4 : Int))) then false else true) then (some ((g_dk ()).1, ())) else (some (false, ()))) else (some (false, ())))) else (bif (decide (y0.2.1 = (4 : Int))) then (bif (decide (y1.1.2.2.2.1 = y0.2.1)) then (cl (p_df ((y1.1.1, (y1.1.2.1, (y1.1.2.2.1, (y0.1.2.2.2.1, y1.1.2.2.2.2)))), (y0.1, ()))) (g_df ((y1.1.1, (y1.1.2.1, (y1.1.2.2.1, (y0.1.2.2.2.1, y1.1.2.2.2.2)))), (y0.1, ()))) fun y21 => (bif y21.1 then (cl (p_db (y1.1, ())) (g_db (y1.1, ())) fun y22 => (some (y22.1, ()))) else (some (false, ())))) else (some (false, ()))) else (some (false, ())))) else (bif (bif y1.2.1 then false else true) then (cl (p_df (y1.1, (y0.1, ()))) (g_df (y1.1, (y0.1, ()))) fun y23 => (bif y23.1 then (some ((g_dk ()).1, ())) else (some (false, ())))) else (some (false, ()))))) else (bif (bif y1.2.1 then false else true) then (cl (p_df (y1.1, (y0.1, ()))) (g_df (y1.1, (y0.1, ()))) fun y24 => (bif y24.1 then (some ((g_dk ()).1, ())) else (some (false, ())))) else (some (false, ())))))))))))) := by kernel_rfl
theorem S_lFnBatMove (h_c1 : C_c1 p_c1 g_c1) (h_dc : C_dc p_dc g_dc) (h_bj : C_bj p_bj g_bj) (h_df : C_df p_df g_df) (h_bb : C_bb p_bb g_bb) (h_dg : C_dg p_dg g_dg) (h_dk : C_dk (fun _ => true) g_dk) (h_db : C_db p_db g_db) {pre : In_lFnBatMove -> Bool} {fn : In_lFnBatMove -> Out_lFnBatMove} (hev : ∀ x, pre x = true -> ∃ k, E_lFnBatMove g_c1 p_c1 g_dc p_dc g_bj p_bj g_df p_df g_bb p_bb g_dg p_dg g_dk g_db p_db k x = some (fn x)) : C_lFnBatMove pre fn := sound tysOk mixed (fn := Tryz.f8) rfl rfl rfl (.cons h_c1 (.cons h_dc (.cons h_bj (.cons h_df (.cons h_bb (.cons h_dg (.cons h_dk (.cons h_db .nil)))))))) _ hev
end
end Go.Proofs.YtmbmoenjhfkgkaaGreat
