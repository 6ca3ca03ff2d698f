/- The functions of the seat, evaluated: equations, checked by the kernel. Made by a program. -/
import Derived.Test.YtmbmoenjhfkgkaaGreatFnBatOkEq0
set_option linter.unusedVariables false
set_option maxRecDepth 100000
namespace Go.Proofs.YtmbmoenjhfkgkaaGreat
open Go.Vm
/-! cx: gIndex_bool -/
abbrev M_cx : List Vm.Mode := [.imm L_bool, .imm .bool]
abbrev R_cx : List (RK × Sh) := [(.imm, I)]
abbrev In_cx : Type := (insSh M_cx).den
abbrev Out_cx : Type := (outSh R_cx M_cx).den
abbrev C_cx (pre : In_cx -> Bool) (fn : In_cx -> Out_cx) : Prop := Sound Tryz.prog 226 ⟨M_cx, R_cx, pre, fn⟩
abbrev X_cx : Ctx := ctx tys 19 (conOf []) (keepOf [(pt1, (⟨[(0, .asis), (1, .asis), (7, .asis), (8, .asis)], [], []⟩ : Keep))]) (fun _ => [])
noncomputable abbrev E_cx (k : Nat) (x : In_cx) : Option Out_cx := evFn X_cx Tryz.f226 R_cx M_cx k x
def h0_cx (x0 : Dm (.imm L_bool)) (x1 : Dm (.imm .bool)) (h0 : Dn I) (h1 : Dn I) : St := mkS [(0, (AV.val L_bool x0)), (1, (AV.val Sh.bool x1)), (7, (AV.val I h0)), (8, (AV.val I h1))] []
noncomputable def r_cx (x : In_cx) (k : Nat) (p : List Bool) (s : St) : Option Out_cx := rounds X_cx Tryz.f226 R_cx M_cx x k p s
theorem ev_cx (k : Nat) (x0 : Dm (.imm L_bool)) (x1 : Dm (.imm .bool)) : E_cx k (x0, x1, ()) =
  (r_cx  (x0, x1, ()) k pt1 (h0_cx x0 x1 (List.length x0 : Int) (0 : Int))) := by kernel_rfl
theorem rd0_cx (k : Nat) (x0 : Dm (.imm L_bool)) (x1 : Dm (.imm .bool)) (h0 : Dn I) (h1 : Dn I) : r_cx  (x0, x1, ()) (k + 1) pt1 (h0_cx x0 x1 h0 h1) =
  (bif (decide (h1 < h0)) then (bif (bif (decide ((0 : Int) <= h1)) then (decide (h1 < (List.length x0 : Int))) else false) then (bif (x1 == (rdL (e := Sh.bool) x0 h1)) then (some (h1, ())) else (r_cx  (x0, x1, ()) k pt1 (h0_cx x0 x1 h0 (w64 (h1 + (1 : Int)))))) else none) else (some ((-1 : Int), ()))) := by kernel_rfl
theorem S_cx  {pre : In_cx -> Bool} {fn : In_cx -> Out_cx} (hev : ∀ x, pre x = true -> ∃ k, E_cx k x = some (fn x)) : C_cx pre fn := sound tysOk mixed (fn := Tryz.f226) rfl rfl rfl ConsOk.nil _ hev
/-! cy: gContains_bool -/
abbrev M_cy : List Vm.Mode := [.imm L_bool, .imm .bool]
abbrev R_cy : List (RK × Sh) := [(.imm, .bool)]
abbrev In_cy : Type := (insSh M_cy).den
abbrev Out_cy : Type := (outSh R_cy M_cy).den
abbrev C_cy (pre : In_cy -> Bool) (fn : In_cy -> Out_cy) : Prop := Sound Tryz.prog 169 ⟨M_cy, R_cy, pre, fn⟩
section
variable (g_cx : In_cx -> Out_cx) (p_cx : In_cx -> Bool)
abbrev X_cy : Ctx := ctx tys 9 (conOf [(226, ⟨M_cx, R_cx, p_cx, g_cx⟩)]) (keepOf []) (fun _ => [])
noncomputable abbrev E_cy (k : Nat) (x : In_cy) : Option Out_cy := evFn (X_cy g_cx p_cx) Tryz.f169 R_cy M_cy k x
variable {g_cx p_cx}
theorem ev_cy (k : Nat) (x0 : Dm (.imm L_bool)) (x1 : Dm (.imm .bool)) : E_cy g_cx p_cx k (x0, x1, ()) =
  (cl (p_cx (x0, (x1, ()))) (g_cx (x0, (x1, ()))) fun y0 => (some ((decide ((0 : Int) <= y0.1)), ()))) := by kernel_rfl
theorem S_cy (h_cx : C_cx p_cx g_cx) {pre : In_cy -> Bool} {fn : In_cy -> Out_cy} (hev : ∀ x, pre x = true -> ∃ k, E_cy g_cx p_cx k x = some (fn x)) : C_cy pre fn := sound tysOk mixed (fn := Tryz.f169) rfl rfl rfl (.cons h_cx .nil) _ hev
end
/-! cz: imixed -/
abbrev M_cz : List Vm.Mode := [.imm I, .imm L_int]
abbrev R_cz : List (RK × Sh) := [(.imm, I)]
abbrev In_cz : Type := (insSh M_cz).den
abbrev Out_cz : Type := (outSh R_cz M_cz).den
abbrev C_cz (pre : In_cz -> Bool) (fn : In_cz -> Out_cz) : Prop := Sound Tryz.prog 109 ⟨M_cz, R_cz, pre, fn⟩
abbrev X_cz : Ctx := ctx tys 23 (conOf []) (keepOf [(pt1, (⟨[(0, .asis), (7, .asis), (8, .asis), (9, .asis)], [], []⟩ : Keep))]) (fun _ => [])
noncomputable abbrev E_cz (k : Nat) (x : In_cz) : Option Out_cz := evFn X_cz Tryz.f109 R_cz M_cz k x
def h0_cz (x0 : Dm (.imm I)) (x1 : Dm (.imm L_int)) (h0 : Dn I) (h1 : Dn I) (h2 : Dn I) : St := mkS [(0, (AV.val I h0)), (7, (AV.val L_int x1)), (8, (AV.val I h1)), (9, (AV.val I h2))] []
noncomputable def r_cz (x : In_cz) (k : Nat) (p : List Bool) (s : St) : Option Out_cz := rounds X_cz Tryz.f109 R_cz M_cz x k p s
theorem ev_cz (k : Nat) (x0 : Dm (.imm I)) (x1 : Dm (.imm L_int)) : E_cz k (x0, x1, ()) =
  (r_cz  (x0, x1, ()) k pt1 (h0_cz x0 x1 x0 (List.length x1 : Int) (0 : Int))) := by kernel_rfl
theorem rd0_cz (k : Nat) (x0 : Dm (.imm I)) (x1 : Dm (.imm L_int)) (h0 : Dn I) (h1 : Dn I) (h2 : Dn I) : r_cz  (x0, x1, ()) (k + 1) pt1 (h0_cz x0 x1 h0 h1 h2) =
  (bif (decide (h2 < h1)) then (bif (bif (decide ((0 : Int) <= h2)) then (decide (h2 < (List.length x1 : Int))) else false) then (bif (bif (decide ((999983 : Int) = (0 : Int))) then false else true) then (bif (bif (decide ((999983 : Int) = (0 : Int))) then false else true) then (r_cz  (x0, x1, ()) k pt1 (h0_cz x0 x1 (Int.tmod (w64 ((w64 ((w64 ((w64 (h0 * (8191 : Int))) + (Int.tmod (rdL (e := I) x1 h2) (999983 : Int)))) + (999983 : Int))) + (7 : Int))) (999983 : Int)) h1 (w64 (h2 + (1 : Int))))) else none) else none) else none) else (some (h0, ()))) := by kernel_rfl
theorem S_cz  {pre : In_cz -> Bool} {fn : In_cz -> Out_cz} (hev : ∀ x, pre x = true -> ∃ k, E_cz k x = some (fn x)) : C_cz pre fn := sound tysOk mixed (fn := Tryz.f109) rfl rfl rfl ConsOk.nil _ hev
/-! d0: iBatMark -/
abbrev M_d0 : List Vm.Mode := [.imm S_BatBatch]
abbrev R_d0 : List (RK × Sh) := [(.imm, I)]
abbrev In_d0 : Type := (insSh M_d0).den
abbrev Out_d0 : Type := (outSh R_d0 M_d0).den
abbrev C_d0 (pre : In_d0 -> Bool) (fn : In_d0 -> Out_d0) : Prop := Sound Tryz.prog 35 ⟨M_d0, R_d0, pre, fn⟩
section
variable (g_cz : In_cz -> Out_cz) (p_cz : In_cz -> Bool)
abbrev X_d0 : Ctx := ctx tys 69 (conOf [(109, ⟨M_cz, R_cz, p_cz, g_cz⟩)]) (keepOf [(pt2, (⟨[(3, .asis), (51, .asis), (52, .asis), (53, .asis)], [], []⟩ : Keep)), (pt7, (⟨[(1, .asis), (3, .asis), (15, .asis), (16, .asis), (17, .asis), (35, .asis), (36, .asis), (37, .asis)], [(1, .asis)], []⟩ : Keep)), (pt0, (⟨[(1, .asis), (3, .asis), (15, .asis), (16, .asis), (17, .asis)], [(1, .asis)], []⟩ : Keep))]) (fun _ => [])
noncomputable abbrev E_d0 (k : Nat) (x : In_d0) : Option Out_d0 := evFn (X_d0 g_cz p_cz) Tryz.f35 R_d0 M_d0 k x
def h0_d0 (x0 : Dm (.imm S_BatBatch)) (h0 : Dn I) (h1 : Dn I) (h2 : Dn I) : St := mkS [(1, (AV.ptr 1 none [])), (3, (AV.val I h0)), (15, (AV.val L_TstTest x0.2.2.1)), (16, (AV.val I h1)), (17, (AV.val I h2))] [(1, (Ob.box S_BatBatch (AV.val S_BatBatch x0)))]
def h1_d0 (x0 : Dm (.imm S_BatBatch)) (h0 : Dn I) (h1 : Dn I) (h2 : Dn I) (h3 : Dn L_DecDec) (h4 : Dn I) (h5 : Dn I) : St := mkS [(1, (AV.ptr 1 none [])), (3, (AV.val I h0)), (15, (AV.val L_TstTest x0.2.2.1)), (16, (AV.val I h1)), (17, (AV.val I h2)), (35, (AV.val L_DecDec h3)), (36, (AV.val I h4)), (37, (AV.val I h5))] [(1, (Ob.box S_BatBatch (AV.val S_BatBatch x0)))]
def h2_d0 (x0 : Dm (.imm S_BatBatch)) (h0 : Dn I) (h1 : Dn I) (h2 : Dn I) : St := mkS [(3, (AV.val I h0)), (51, (AV.val L_bool x0.2.2.2.2.2)), (52, (AV.val I h1)), (53, (AV.val I h2))] []
noncomputable def r_d0 (x : In_d0) (k : Nat) (p : List Bool) (s : St) : Option Out_d0 := rounds (X_d0 g_cz p_cz) Tryz.f35 R_d0 M_d0 x k p s
variable {g_cz p_cz}
theorem ev_d0 (k : Nat) (x0 : Dm (.imm S_BatBatch)) : E_d0 g_cz p_cz k (x0, ()) =
  (cl (p_cz ((1 : Int), ([x0.1], ()))) (g_cz ((1 : Int), ([x0.1], ()))) fun y0 => (r_d0 g_cz p_cz (x0, ()) k pt0 (h0_d0 x0 (y0.1) (List.length x0.2.2.1 : Int) (0 : Int)))) := by kernel_rfl
theorem rd0_d0 (k : Nat) (x0 : Dm (.imm S_BatBatch)) (h0 : Dn I) (h1 : Dn I) (h2 : Dn I) : r_d0 g_cz p_cz (x0, ()) (k + 1) pt0 (h0_d0 x0 h0 h1 h2) =
  (lt (rdL (e := S_TstTest) x0.2.2.1 h2) fun s0 => (bif (decide (h2 < h1)) then (bif (bif (decide ((0 : Int) <= h2)) then (decide (h2 < (List.length x0.2.2.1 : Int))) else false) then (cl (p_cz (h0, ([(s0.2.1), (s0.2.2.1.1), (s0.2.2.1.2), (s0.2.2.2.1)], ()))) (g_cz (h0, ([(s0.2.1), (s0.2.2.1.1), (s0.2.2.1.2), (s0.2.2.2.1)], ()))) fun y0 => (r_d0 g_cz p_cz (x0, ()) k pt7 (h1_d0 x0 (y0.1) h1 h2 (s0.2.2.2.2) (List.length s0.2.2.2.2 : Int) (0 : Int)))) else none) else (r_d0 g_cz p_cz (x0, ()) k pt2 (h2_d0 x0 h0 (List.length x0.2.2.2.2.2 : Int) (0 : Int))))) := by kernel_rfl
theorem rd1_d0 (k : Nat) (x0 : Dm (.imm S_BatBatch)) (h0 : Dn I) (h1 : Dn I) (h2 : Dn I) (h3 : Dn L_DecDec) (h4 : Dn I) (h5 : Dn I) : r_d0 g_cz p_cz (x0, ()) (k + 1) pt7 (h1_d0 x0 h0 h1 h2 h3 h4 h5) =
  (bif (decide (h5 < h4)) then (bif (bif (decide ((0 : Int) <= h5)) then (decide (h5 < (List.length h3 : Int))) else false) then (cl (p_cz (h0, ([((rdL (e := S_DecDec) h3 h5).1), ((rdL (e := S_DecDec) h3 h5).2)], ()))) (g_cz (h0, ([((rdL (e := S_DecDec) h3 h5).1), ((rdL (e := S_DecDec) h3 h5).2)], ()))) fun y0 => (r_d0 g_cz p_cz (x0, ()) k pt7 (h1_d0 x0 (y0.1) h1 h2 h3 h4 (w64 (h5 + (1 : Int)))))) else none) else (r_d0 g_cz p_cz (x0, ()) k pt0 (h0_d0 x0 h0 h1 (w64 (h2 + (1 : Int)))))) := by kernel_rfl
theorem rd2_d0 (k : Nat) (x0 : Dm (.imm S_BatBatch)) (h0 : Dn I) (h1 : Dn I) (h2 : Dn I) : r_d0 g_cz p_cz (x0, ()) (k + 1) pt2 (h2_d0 x0 h0 h1 h2) =
  (bif (decide (h2 < h1)) then (bif (bif (decide ((0 : Int) <= h2)) then (decide (h2 < (List.length x0.2.2.2.2.2 : Int))) else false) then (cl (p_cz (h0, ([(w64 (h2 + (1 : Int)))], ()))) (g_cz (h0, ([(w64 (h2 + (1 : Int)))], ()))) fun y0 => (bif (rdL (e := Sh.bool) x0.2.2.2.2.2 h2) then (cl (p_cz (y0.1, ([(77 : Int)], ()))) (g_cz (y0.1, ([(77 : Int)], ()))) fun y1 => (r_d0 g_cz p_cz (x0, ()) k pt2 (h2_d0 x0 (y1.1) h1 (w64 (h2 + (1 : Int)))))) else (r_d0 g_cz p_cz (x0, ()) k pt2 (h2_d0 x0 (y0.1) h1 (w64 (h2 + (1 : Int))))))) else none) else (some (h0, ()))) := by kernel_rfl
theorem S_d0 (h_cz : C_cz p_cz g_cz) {pre : In_d0 -> Bool} {fn : In_d0 -> Out_d0} (hev : ∀ x, pre x = true -> ∃ k, E_d0 g_cz p_cz k x = some (fn x)) : C_d0 pre fn := sound tysOk mixed (fn := Tryz.f35) rfl rfl rfl (.cons h_cz .nil) _ hev
end
/-! d1: iBatSigned -/
abbrev M_d1 : List Vm.Mode := [.imm S_BatBatch, .imm I, .imm I]
abbrev R_d1 : List (RK × Sh) := [(.imm, I)]
abbrev In_d1 : Type := (insSh M_d1).den
abbrev Out_d1 : Type := (outSh R_d1 M_d1).den
abbrev C_d1 (pre : In_d1 -> Bool) (fn : In_d1 -> Out_d1) : Prop := Sound Tryz.prog 45 ⟨M_d1, R_d1, pre, fn⟩
section
variable (g_d0 : In_d0 -> Out_d0) (p_d0 : In_d0 -> Bool)
abbrev X_d1 : Ctx := ctx tys 38 (conOf [(35, ⟨M_d0, R_d0, p_d0, g_d0⟩)]) (keepOf [(pt0, (⟨[(1, .asis), (2, .asis), (7, .asis), (13, .asis), (14, .asis), (15, .asis)], [], []⟩ : Keep))]) (fun _ => [])
noncomputable abbrev E_d1 (k : Nat) (x : In_d1) : Option Out_d1 := evFn (X_d1 g_d0 p_d0) Tryz.f45 R_d1 M_d1 k x
def h0_d1 (x0 : Dm (.imm S_BatBatch)) (x1 : Dm (.imm I)) (x2 : Dm (.imm I)) (h0 : Dn I) (h1 : Dn I) (h2 : Dn I) : St := mkS [(1, (AV.val I x1)), (2, (AV.val I x2)), (7, (AV.val I h0)), (13, (AV.val L_BatSig x0.2.2.2.2.1)), (14, (AV.val I h1)), (15, (AV.val I h2))] []
noncomputable def r_d1 (x : In_d1) (k : Nat) (p : List Bool) (s : St) : Option Out_d1 := rounds (X_d1 g_d0 p_d0) Tryz.f45 R_d1 M_d1 x k p s
variable {g_d0 p_d0}
theorem ev_d1 (k : Nat) (x0 : Dm (.imm S_BatBatch)) (x1 : Dm (.imm I)) (x2 : Dm (.imm I)) : E_d1 g_d0 p_d0 k (x0, x1, x2, ()) =
  (cl (p_d0 (x0, ())) (g_d0 (x0, ())) fun y0 => (r_d1 g_d0 p_d0 (x0, x1, x2, ()) k pt0 (h0_d1 x0 x1 x2 (y0.1) (List.length x0.2.2.2.2.1 : Int) (0 : Int)))) := by kernel_rfl
theorem rd0_d1 (k : Nat) (x0 : Dm (.imm S_BatBatch)) (x1 : Dm (.imm I)) (x2 : Dm (.imm I)) (h0 : Dn I) (h1 : Dn I) (h2 : Dn I) : r_d1 g_d0 p_d0 (x0, x1, x2, ()) (k + 1) pt0 (h0_d1 x0 x1 x2 h0 h1 h2) =
  (bif (decide (h2 < h1)) then (bif (bif (decide ((0 : Int) <= h2)) then (decide (h2 < (List.length x0.2.2.2.2.1 : Int))) else false) then (bif (decide ((rdL (e := S_BatSig) x0.2.2.2.2.1 h2).2.1 = x1)) then (bif (decide ((rdL (e := S_BatSig) x0.2.2.2.2.1 h2).2.2 = h0)) then (bif (bif (decide ((rdL (e := S_BatSig) x0.2.2.2.2.1 h2).1 = x2)) then false else true) then (some ((rdL (e := S_BatSig) x0.2.2.2.2.1 h2).1, ())) else (r_d1 g_d0 p_d0 (x0, x1, x2, ()) k pt0 (h0_d1 x0 x1 x2 h0 h1 (w64 (h2 + (1 : Int)))))) else (r_d1 g_d0 p_d0 (x0, x1, x2, ()) k pt0 (h0_d1 x0 x1 x2 h0 h1 (w64 (h2 + (1 : Int)))))) else (r_d1 g_d0 p_d0 (x0, x1, x2, ()) k pt0 (h0_d1 x0 x1 x2 h0 h1 (w64 (h2 + (1 : Int)))))) else none) else (some ((0 : Int), ()))) := by kernel_rfl
theorem S_d1 (h_d0 : C_d0 p_d0 g_d0) {pre : In_d1 -> Bool} {fn : In_d1 -> Out_d1} (hev : ∀ x, pre x = true -> ∃ k, E_d1 g_d0 p_d0 k x = some (fn x)) : C_d1 pre fn := sound tysOk mixed (fn := Tryz.f45) rfl rfl rfl (.cons h_d0 .nil) _ hev
end
/-! d2: iBatBatch_gate_c2 -/
abbrev M_d2 : List Vm.Mode := [.imm S_BatSig, .pR I, .pR S_BatBatch]
abbrev R_d2 : List (RK × Sh) := [(.imm, .bool)]
abbrev In_d2 : Type := (insSh M_d2).den
abbrev Out_d2 : Type := (outSh R_d2 M_d2).den
abbrev C_d2 (pre : In_d2 -> Bool) (fn : In_d2 -> Out_d2) : Prop := Sound Tryz.prog 170 ⟨M_d2, R_d2, pre, fn⟩
section
variable (g_d1 : In_d1 -> Out_d1) (p_d1 : In_d1 -> Bool)
abbrev X_d2 : Ctx := ctx tys 21 (conOf [(45, ⟨M_d1, R_d1, p_d1, g_d1⟩)]) (keepOf []) (fun _ => [])
noncomputable abbrev E_d2 (k : Nat) (x : In_d2) : Option Out_d2 := evFn (X_d2 g_d1 p_d1) Tryz.f170 R_d2 M_d2 k x
variable {g_d1 p_d1}
theorem ev_d2 (k : Nat) (x0 : Dm (.imm S_BatSig)) (x1 : Dm (.pR I)) (x2 : Dm (.pR S_BatBatch)) : E_d2 g_d1 p_d1 k (x0, x1, x2, ()) =
  (bif (decide (x0.2.1 = (2 : Int))) then (bif (decide (x0.2.2 = x1)) then (cl (p_d1 (x2, ((3 : Int), (x0.1, ())))) (g_d1 (x2, ((3 : Int), (x0.1, ())))) fun y0 => (some ((decide ((0 : Int) < y0.1)), ()))) else (some (false, ()))) else (some (false, ()))) := by kernel_rfl
theorem S_d2 (h_d1 : C_d1 p_d1 g_d1) {pre : In_d2 -> Bool} {fn : In_d2 -> Out_d2} (hev : ∀ x, pre x = true -> ∃ k, E_d2 g_d1 p_d1 k x = some (fn x)) : C_d2 pre fn := sound tysOk mixed (fn := Tryz.f170) rfl rfl rfl (.cons h_d1 .nil) _ hev
end
/-! d3: gIndexFunc_BatSig__iBatBatch_gate_c2 -/
abbrev M_d3 : List Vm.Mode := [.imm L_BatSig, .clo 170 [I, S_BatBatch]]
abbrev R_d3 : List (RK × Sh) := [(.imm, I)]
abbrev In_d3 : Type := (insSh M_d3).den
abbrev Out_d3 : Type := (outSh R_d3 M_d3).den
abbrev C_d3 (pre : In_d3 -> Bool) (fn : In_d3 -> Out_d3) : Prop := Sound Tryz.prog 182 ⟨M_d3, R_d3, pre, fn⟩
section
variable (g_d2 : In_d2 -> Out_d2) (p_d2 : In_d2 -> Bool)
abbrev X_d3 : Ctx := ctx tys 19 (conOf [(170, ⟨M_d2, R_d2, p_d2, g_d2⟩)]) (keepOf [(pt1, (⟨[(0, .asis), (1, .asis), (7, .asis), (8, .asis)], [(1000005000, .asis), (1000005001, .asis)], []⟩ : Keep))]) (fun _ => [])
noncomputable abbrev E_d3 (k : Nat) (x : In_d3) : Option Out_d3 := evFn (X_d3 g_d2 p_d2) Tryz.f182 R_d3 M_d3 k x
def h0_d3 (x0 : Dm (.imm L_BatSig)) (x1 : Dm (.clo 170 [I, S_BatBatch])) (h0 : Dn I) (h1 : Dn I) : St := mkS [(0, (AV.val L_BatSig x0)), (1, (AV.fn 170 [1000005000, 1000005001])), (7, (AV.val I h0)), (8, (AV.val I h1))] [(1000005000, (Ob.cbox I x1.1)), (1000005001, (Ob.cbox S_BatBatch x1.2.1))]
noncomputable def r_d3 (x : In_d3) (k : Nat) (p : List Bool) (s : St) : Option Out_d3 := rounds (X_d3 g_d2 p_d2) Tryz.f182 R_d3 M_d3 x k p s
variable {g_d2 p_d2}
theorem ev_d3 (k : Nat) (x0 : Dm (.imm L_BatSig)) (x1 : Dm (.clo 170 [I, S_BatBatch])) : E_d3 g_d2 p_d2 k (x0, x1, ()) =
  (r_d3 g_d2 p_d2 (x0, x1, ()) k pt1 (h0_d3 x0 x1 (List.length x0 : Int) (0 : Int))) := by kernel_rfl
theorem rd0_d3 (k : Nat) (x0 : Dm (.imm L_BatSig)) (x1 : Dm (.clo 170 [I, S_BatBatch])) (h0 : Dn I) (h1 : Dn I) : r_d3 g_d2 p_d2 (x0, x1, ()) (k + 1) pt1 (h0_d3 x0 x1 h0 h1) =
  (bif (decide (h1 < h0)) then (bif (bif (decide ((0 : Int) <= h1)) then (decide (h1 < (List.length x0 : Int))) else false) then (cl (p_d2 ((rdL (e := S_BatSig) x0 h1), (x1.1, (x1.2.1, ())))) (g_d2 ((rdL (e := S_BatSig) x0 h1), (x1.1, (x1.2.1, ())))) fun y0 => (bif y0.1 then (some (h1, ())) else (r_d3 g_d2 p_d2 (x0, x1, ()) k pt1 (h0_d3 x0 x1 h0 (w64 (h1 + (1 : Int))))))) else none) else (some ((-1 : Int), ()))) := by kernel_rfl
theorem S_d3 (h_d2 : C_d2 p_d2 g_d2) {pre : In_d3 -> Bool} {fn : In_d3 -> Out_d3} (hev : ∀ x, pre x = true -> ∃ k, E_d3 g_d2 p_d2 k x = some (fn x)) : C_d3 pre fn := sound tysOk mixed (fn := Tryz.f182) rfl rfl rfl (.cons h_d2 .nil) _ hev
end
/-! d4: gContainsFunc_BatSig__iBatBatch_gate_c2 -/
abbrev M_d4 : List Vm.Mode := [.imm L_BatSig, .clo 170 [I, S_BatBatch]]
abbrev R_d4 : List (RK × Sh) := [(.imm, .bool)]
abbrev In_d4 : Type := (insSh M_d4).den
abbrev Out_d4 : Type := (outSh R_d4 M_d4).den
abbrev C_d4 (pre : In_d4 -> Bool) (fn : In_d4 -> Out_d4) : Prop := Sound Tryz.prog 113 ⟨M_d4, R_d4, pre, fn⟩
section
variable (g_d3 : In_d3 -> Out_d3) (p_d3 : In_d3 -> Bool)
abbrev X_d4 : Ctx := ctx tys 9 (conOf [(182, ⟨M_d3, R_d3, p_d3, g_d3⟩)]) (keepOf []) (fun _ => [])
noncomputable abbrev E_d4 (k : Nat) (x : In_d4) : Option Out_d4 := evFn (X_d4 g_d3 p_d3) Tryz.f113 R_d4 M_d4 k x
variable {g_d3 p_d3}
theorem ev_d4 (k : Nat) (x0 : Dm (.imm L_BatSig)) (x1 : Dm (.clo 170 [I, S_BatBatch])) : E_d4 g_d3 p_d3 k (x0, x1, ()) =
  (cl (p_d3 (x0, ((x1.1, (x1.2.1, ())), ()))) (g_d3 (x0, ((x1.1, (x1.2.1, ())), ()))) fun y0 => (some ((decide ((0 : Int) <= y0.1)), ()))) := by kernel_rfl
theorem S_d4 (h_d3 : C_d3 p_d3 g_d3) {pre : In_d4 -> Bool} {fn : In_d4 -> Out_d4} (hev : ∀ x, pre x = true -> ∃ k, E_d4 g_d3 p_d3 k x = some (fn x)) : C_d4 pre fn := sound tysOk mixed (fn := Tryz.f113) rfl rfl rfl (.cons h_d3 .nil) _ hev
end
/-! d5: iBatBatch_gate -/
abbrev M_d5 : List Vm.Mode := [.imm S_BatBatch]
abbrev R_d5 : List (RK × Sh) := [(.imm, .bool)]
abbrev In_d5 : Type := (insSh M_d5).den
abbrev Out_d5 : Type := (outSh R_d5 M_d5).den
abbrev C_d5 (pre : In_d5 -> Bool) (fn : In_d5 -> Out_d5) : Prop := Sound Tryz.prog 105 ⟨M_d5, R_d5, pre, fn⟩
section
variable (g_cw : In_cw -> Out_cw) (p_cw : In_cw -> Bool) (g_cy : In_cy -> Out_cy) (p_cy : In_cy -> Bool) (g_d0 : In_d0 -> Out_d0) (p_d0 : In_d0 -> Bool) (g_d4 : In_d4 -> Out_d4) (p_d4 : In_d4 -> Bool)
abbrev X_d5 : Ctx := ctx tys 20 (conOf [(168, ⟨M_cw, R_cw, p_cw, g_cw⟩), (169, ⟨M_cy, R_cy, p_cy, g_cy⟩), (35, ⟨M_d0, R_d0, p_d0, g_d0⟩), (113, ⟨M_d4, R_d4, p_d4, g_d4⟩)]) (keepOf []) (fun _ => [])
noncomputable abbrev E_d5 (k : Nat) (x : In_d5) : Option Out_d5 := evFn (X_d5 g_cw p_cw g_cy p_cy g_d0 p_d0 g_d4 p_d4) Tryz.f105 R_d5 M_d5 k x
variable {g_cw p_cw g_cy p_cy g_d0 p_d0 g_d4 p_d4}
theorem ev_d5 (k : Nat) (x0 : Dm (.imm S_BatBatch)) : E_d5 g_cw p_cw g_cy p_cy g_d0 p_d0 g_d4 p_d4 k (x0, ()) =
  (cl (p_cw (x0.2.2.1, ((), ()))) (g_cw (x0.2.2.1, ((), ()))) fun y0 => (bif y0.1 then (some (false, ())) else (cl (p_cy (x0.2.2.2.2.2, (true, ()))) (g_cy (x0.2.2.2.2.2, (true, ()))) fun y1 => (bif y1.1 then (some (false, ())) else (cl (p_d0 (x0, ())) (g_d0 (x0, ())) fun y2 => (cl (p_d4 (x0.2.2.2.2.1, ((y2.1, (x0, ())), ()))) (g_d4 (x0.2.2.2.2.1, ((y2.1, (x0, ())), ()))) fun y3 => (some (y3.1, ())))))))) := by kernel_rfl
theorem S_d5 (h_cw : C_cw p_cw g_cw) (h_cy : C_cy p_cy g_cy) (h_d0 : C_d0 p_d0 g_d0) (h_d4 : C_d4 p_d4 g_d4) {pre : In_d5 -> Bool} {fn : In_d5 -> Out_d5} (hev : ∀ x, pre x = true -> ∃ k, E_d5 g_cw p_cw g_cy p_cy g_d0 p_d0 g_d4 p_d4 k x = some (fn x)) : C_d5 pre fn := sound tysOk mixed (fn := Tryz.f105) rfl rfl rfl (.cons h_cw (.cons h_cy (.cons h_d0 (.cons h_d4 .nil)))) _ hev
end
/-! d6: iBatOk -/
abbrev M_d6 : List Vm.Mode := [.imm S_BatBatch]
abbrev R_d6 : List (RK × Sh) := [(.imm, .bool)]
abbrev In_d6 : Type := (insSh M_d6).den
abbrev Out_d6 : Type := (outSh R_d6 M_d6).den
abbrev C_d6 (pre : In_d6 -> Bool) (fn : In_d6 -> Out_d6) : Prop := Sound Tryz.prog 37 ⟨M_d6, R_d6, pre, fn⟩
section
variable (g_iin : In_iin -> Out_iin) (g_cn : In_cn -> Out_cn) (p_cn : In_cn -> Bool) (g_ct : In_ct -> Out_ct) (p_ct : In_ct -> Bool) (g_d5 : In_d5 -> Out_d5) (p_d5 : In_d5 -> Bool)
abbrev X_d6 : Ctx := ctx tys 87 (conOf [(72, ⟨M_iin, R_iin, fun _ => true, g_iin⟩), (110, ⟨M_cn, R_cn, p_cn, g_cn⟩), (113, ⟨M_ct, R_ct, p_ct, g_ct⟩), (105, ⟨M_d5, R_d5, p_d5, g_d5⟩)]) (keepOf [(pt0, (⟨[(1, .asis), (30, .asis), (31, .asis), (32, .asis)], [(1, .asis)], []⟩ : Keep))]) (fun _ => [])
noncomputable abbrev E_d6 (k : Nat) (x : In_d6) : Option Out_d6 := evFn (X_d6 g_iin g_cn p_cn g_ct p_ct g_d5 p_d5) Tryz.f37 R_d6 M_d6 k x
def h0_d6 (x0 : Dm (.imm S_BatBatch)) (h0 : Dn I) (h1 : Dn I) : St := mkS [(1, (AV.ptr 1 none [])), (30, (AV.val L_TstTest x0.2.2.1)), (31, (AV.val I h0)), (32, (AV.val I h1))] [(1, (Ob.box S_BatBatch (AV.val S_BatBatch x0)))]
noncomputable def r_d6 (x : In_d6) (k : Nat) (p : List Bool) (s : St) : Option Out_d6 := rounds (X_d6 g_iin g_cn p_cn g_ct p_ct g_d5 p_d5) Tryz.f37 R_d6 M_d6 x k p s
variable {g_iin g_cn p_cn g_ct p_ct g_d5 p_d5}
theorem ev_d6 (k : Nat) (x0 : Dm (.imm S_BatBatch)) : E_d6 g_iin g_cn p_cn g_ct p_ct g_d5 p_d5 k (x0, ()) =
  (bif (bif (g_iin (x0.1, ((0 : Int), ((5 : Int), ())))).1 then false else true) then (some (false, ())) else (bif (bif (g_iin (x0.2.1, ((1 : Int), ((10000 : Int), ())))).1 then false else true) then (some (false, ())) else (bif (bif (g_iin ((List.length x0.2.2.1 : Int), ((1 : Int), ((4 : Int), ())))).1 then false else true) then (some (false, ())) else (bif (bif (g_iin (x0.2.2.2.1, ((1 : Int), ((4 : Int), ())))).1 then false else true) then (some (false, ())) else (r_d6 g_iin g_cn p_cn g_ct p_ct g_d5 p_d5 (x0, ()) k pt0 (h0_d6 x0 (List.length x0.2.2.1 : Int) (0 : Int))))))) := by kernel_rfl
theorem rd0_d6 (k : Nat) (x0 : Dm (.imm S_BatBatch)) (h0 : Dn I) (h1 : Dn I) : r_d6 g_iin g_cn p_cn g_ct p_ct g_d5 p_d5 (x0, ()) (k + 1) pt0 (h0_d6 x0 h0 h1) =
  (lt (rdL (e := S_TstTest) x0.2.2.1 h1) fun s1 => (lt (w64 (h1 - (1 : Int))) fun s0 => (bif (decide (h1 < h0)) then (bif (bif (decide ((0 : Int) <= h1)) then (decide (h1 < (List.length x0.2.2.1 : Int))) else false) then (cl (p_cn (s1, ())) (g_cn (s1, ())) fun y0 => (bif (bif y0.1 then false else true) then (some (false, ())) else (bif (decide ((0 : Int) < h1)) then (bif (bif (decide ((0 : Int) <= s0)) then (decide (s0 < (List.length x0.2.2.1 : Int))) else false) then (bif (decide (s1.1.1 <= (rdL (e := S_TstTest) x0.2.2.1 s0).1.1)) then (some (false, ())) else (r_d6 g_iin g_cn p_cn g_ct p_ct g_d5 p_d5 (x0, ()) k pt0 (h0_d6 x0 h0 (w64 (h1 + (1 : Int)))))) else none) else (r_d6 g_iin g_cn p_cn g_ct p_ct g_d5 p_d5 (x0, ()) k pt0 (h0_d6 x0 h0 (w64 (h1 + (1 : Int)))))))) else none) else (bif (decide ((6 : Int) < (List.length x0.2.2.2.2.1 : Int))) then (some (false, ())) else (cl (p_ct (x0.2.2.2.2.1, ((), ()))) (g_ct (x0.2.2.2.2.1, ((), ()))) fun y1 => (bif y1.1 then (some (false, ())) else (bif (decide ((3 : Int) < (List.length x0.2.2.2.2.2 : Int))) then (some (false, ())) else (bif (bif (decide (x0.2.2.2.1 = (2 : Int))) then false else true) then (bif (bif (decide (x0.2.2.2.1 = (4 : Int))) then false else true) then (some (true, ())) else (cl (p_d5 (x0, ())) (g_d5 (x0, ())) fun y2 => (some (y2.1, ())))) else (cl (p_d5 (x0, ())) (g_d5 (x0, ())) fun y3 => (some (y3.1, ()))))))))))) := by kernel_rfl
theorem S_d6 (h_iin : C_iin (fun _ => true) g_iin) (h_cn : C_cn p_cn g_cn) (h_ct : C_ct p_ct g_ct) (h_d5 : C_d5 p_d5 g_d5) {pre : In_d6 -> Bool} {fn : In_d6 -> Out_d6} (hev : ∀ x, pre x = true -> ∃ k, E_d6 g_iin g_cn p_cn g_ct p_ct g_d5 p_d5 k x = some (fn x)) : C_d6 pre fn := sound tysOk mixed (fn := Tryz.f37) rfl rfl rfl (.cons h_iin (.cons h_cn (.cons h_ct (.cons h_d5 .nil)))) _ hev
end
/-! d7: iBatGate -/
abbrev M_d7 : List Vm.Mode := [.imm S_BatBatch]
abbrev R_d7 : List (RK × Sh) := [(.imm, .bool)]
abbrev In_d7 : Type := (insSh M_d7).den
abbrev Out_d7 : Type := (outSh R_d7 M_d7).den
abbrev C_d7 (pre : In_d7 -> Bool) (fn : In_d7 -> Out_d7) : Prop := Sound Tryz.prog 31 ⟨M_d7, R_d7, pre, fn⟩
section
variable (g_d6 : In_d6 -> Out_d6) (p_d6 : In_d6 -> Bool) (g_d5 : In_d5 -> Out_d5) (p_d5 : In_d5 -> Bool)
abbrev X_d7 : Ctx := ctx tys 9 (conOf [(37, ⟨M_d6, R_d6, p_d6, g_d6⟩), (105, ⟨M_d5, R_d5, p_d5, g_d5⟩)]) (keepOf []) (fun _ => [])
noncomputable abbrev E_d7 (k : Nat) (x : In_d7) : Option Out_d7 := evFn (X_d7 g_d6 p_d6 g_d5 p_d5) Tryz.f31 R_d7 M_d7 k x
variable {g_d6 p_d6 g_d5 p_d5}
theorem ev_d7 (k : Nat) (x0 : Dm (.imm S_BatBatch)) : E_d7 g_d6 p_d6 g_d5 p_d5 k (x0, ()) =
  (cl (p_d6 (x0, ())) (g_d6 (x0, ())) fun y0 => (bif y0.1 then (cl (p_d5 (x0, ())) (g_d5 (x0, ())) fun y1 => (some (y1.1, ()))) else (some (false, ())))) := by kernel_rfl
theorem S_d7 (h_d6 : C_d6 p_d6 g_d6) (h_d5 : C_d5 p_d5 g_d5) {pre : In_d7 -> Bool} {fn : In_d7 -> Out_d7} (hev : ∀ x, pre x = true -> ∃ k, E_d7 g_d6 p_d6 g_d5 p_d5 k x = some (fn x)) : C_d7 pre fn := sound tysOk mixed (fn := Tryz.f31) rfl rfl rfl (.cons h_d6 (.cons h_d5 .nil)) _ hev
end
/-! d8: sBatGate -/
abbrev M_d8 : List Vm.Mode := [.imm S_BatBatch]
abbrev R_d8 : List (RK × Sh) := [(.imm, .bool)]
abbrev In_d8 : Type := (insSh M_d8).den
abbrev Out_d8 : Type := (outSh R_d8 M_d8).den
abbrev C_d8 (pre : In_d8 -> Bool) (fn : In_d8 -> Out_d8) : Prop := Sound Tryz.prog 32 ⟨M_d8, R_d8, pre, fn⟩
section
variable (g_bb : In_bb -> Out_bb) (p_bb : In_bb -> Bool) (g_ba : In_ba -> Out_ba) (p_ba : In_ba -> Bool)
abbrev X_d8 : Ctx := ctx tys 9 (conOf [(33, ⟨M_bb, R_bb, p_bb, g_bb⟩), (106, ⟨M_ba, R_ba, p_ba, g_ba⟩)]) (keepOf []) (fun _ => [])
noncomputable abbrev E_d8 (k : Nat) (x : In_d8) : Option Out_d8 := evFn (X_d8 g_bb p_bb g_ba p_ba) Tryz.f32 R_d8 M_d8 k x
variable {g_bb p_bb g_ba p_ba}
theorem ev_d8 (k : Nat) (x0 : Dm (.imm S_BatBatch)) : E_d8 g_bb p_bb g_ba p_ba k (x0, ()) =
  (cl (p_bb (x0, ())) (g_bb (x0, ())) fun y0 => (bif y0.1 then (cl (p_ba (x0, ())) (g_ba (x0, ())) fun y1 => (some (y1.1, ()))) else (some (false, ())))) := by kernel_rfl
theorem S_d8 (h_bb : C_bb p_bb g_bb) (h_ba : C_ba p_ba g_ba) {pre : In_d8 -> Bool} {fn : In_d8 -> Out_d8} (hev : ∀ x, pre x = true -> ∃ k, E_d8 g_bb p_bb g_ba p_ba k x = some (fn x)) : C_d8 pre fn := sound tysOk mixed (fn := Tryz.f32) rfl rfl rfl (.cons h_bb (.cons h_ba .nil)) _ hev
end
/-! d9: iDayLeap -/
abbrev M_d9 : List Vm.Mode := [.imm I]
abbrev R_d9 : List (RK × Sh) := [(.imm, .bool)]
abbrev In_d9 : Type := (insSh M_d9).den
abbrev Out_d9 : Type := (outSh R_d9 M_d9).den
abbrev C_d9 (pre : In_d9 -> Bool) (fn : In_d9 -> Out_d9) : Prop := Sound Tryz.prog 231 ⟨M_d9, R_d9, pre, fn⟩
abbrev X_d9 : Ctx := ctx tys 16 (conOf []) (keepOf []) (fun _ => [])
noncomputable abbrev E_d9 (k : Nat) (x : In_d9) : Option Out_d9 := evFn X_d9 Tryz.f231 R_d9 M_d9 k x
theorem ev_d9 (k : Nat) (x0 : Dm (.imm I)) : E_d9 k (x0, ()) =
  (bif (bif (decide ((4 : Int) = (0 : Int))) then false else true) then (bif (decide ((Int.tmod x0 (4 : Int)) = (0 : Int))) then (bif (bif (decide ((100 : Int) = (0 : Int))) then false else true) then (bif (bif (decide ((Int.tmod x0 (100 : Int)) = (0 : Int))) then false else true) then (some (true, ())) else (bif (bif (decide ((400 : Int) = (0 : Int))) then false else true) then (some ((decide ((Int.tmod x0 (400 : Int)) = (0 : Int))), ())) else none)) else none) else (some (false, ()))) else none) := by kernel_rfl
theorem S_d9  {pre : In_d9 -> Bool} {fn : In_d9 -> Out_d9} (hev : ∀ x, pre x = true -> ∃ k, E_d9 k x = some (fn x)) : C_d9 pre fn := sound tysOk mixed (fn := Tryz.f231) rfl rfl rfl ConsOk.nil _ hev
/-! da: iDayLast -/
abbrev M_da : List Vm.Mode := [.imm I, .imm I]
abbrev R_da : List (RK × Sh) := [(.imm, I)]
abbrev In_da : Type := (insSh M_da).den
abbrev Out_da : Type := (outSh R_da M_da).den
abbrev C_da (pre : In_da -> Bool) (fn : In_da -> Out_da) : Prop := Sound Tryz.prog 176 ⟨M_da, R_da, pre, fn⟩
section
variable (g_iin : In_iin -> Out_iin) (g_d9 : In_d9 -> Out_d9)
abbrev X_da : Ctx := ctx tys 20 (conOf [(72, ⟨M_iin, R_iin, fun _ => true, g_iin⟩), (231, ⟨M_d9, R_d9, fun _ => true, g_d9⟩)]) (keepOf []) (fun _ => [])
noncomputable abbrev E_da (k : Nat) (x : In_da) : Option Out_da := evFn (X_da g_iin g_d9) Tryz.f176 R_da M_da k x
variable {g_iin g_d9}
theorem ev_da (k : Nat) (x0 : Dm (.imm I)) (x1 : Dm (.imm I)) : E_da g_iin g_d9 k (x0, x1, ()) =
  (bif (bif (g_iin (x1, ((1 : Int), ((12 : Int), ())))).1 then false else true) then (some ((0 : Int), ())) else (bif (decide (x1 = (2 : Int))) then (bif (g_d9 (x0, ())).1 then (some ((29 : Int), ())) else none) else none)) := by kernel_rfl
theorem S_da (h_iin : C_iin (fun _ => true) g_iin) (h_d9 : C_d9 (fun _ => true) g_d9) {pre : In_da -> Bool} {fn : In_da -> Out_da} (hev : ∀ x, pre x = true -> ∃ k, E_da g_iin g_d9 k x = some (fn x)) : C_da pre fn := sound tysOk mixed (fn := Tryz.f176) rfl rfl rfl (.cons h_iin (.cons h_d9 .nil)) _ hev
end
/-! db: iDayOk -/
abbrev M_db : List Vm.Mode := [.imm S_BatSig]
abbrev R_db : List (RK × Sh) := [(.imm, .bool)]
abbrev In_db : Type := (insSh M_db).den
abbrev Out_db : Type := (outSh R_db M_db).den
abbrev C_db (pre : In_db -> Bool) (fn : In_db -> Out_db) : Prop := Sound Tryz.prog 108 ⟨M_db, R_db, pre, fn⟩
section
variable (g_iin : In_iin -> Out_iin) (g_da : In_da -> Out_da) (p_da : In_da -> Bool)
abbrev X_db : Ctx := ctx tys 16 (conOf [(72, ⟨M_iin, R_iin, fun _ => true, g_iin⟩), (176, ⟨M_da, R_da, p_da, g_da⟩)]) (keepOf []) (fun _ => [])
noncomputable abbrev E_db (k : Nat) (x : In_db) : Option Out_db := evFn (X_db g_iin g_da p_da) Tryz.f108 R_db M_db k x
variable {g_iin g_da p_da}
theorem ev_db (k : Nat) (x0 : Dm (.imm S_BatSig)) : E_db g_iin g_da p_da k (x0, ()) =
  (bif (g_iin (x0.1, ((1900 : Int), ((2199 : Int), ())))).1 then (bif (p_da (x0.1, (x0.2.1, ()))) then (some ((g_iin (x0.2.2, ((1 : Int), ((g_da (x0.1, (x0.2.1, ()))).1, ())))).1, ())) else none) else (some (false, ()))) := by kernel_rfl
theorem S_db (h_iin : C_iin (fun _ => true) g_iin) (h_da : C_da p_da g_da) {pre : In_db -> Bool} {fn : In_db -> Out_db} (hev : ∀ x, pre x = true -> ∃ k, E_db g_iin g_da p_da k x = some (fn x)) : C_db pre fn := sound tysOk mixed (fn := Tryz.f108) rfl rfl rfl (.cons h_iin (.cons h_da .nil)) _ hev
end
/-! dc: lcuOk -/
abbrev M_dc : List Vm.Mode := []
abbrev R_dc : List (RK × Sh) := [(.imm, .bool)]
abbrev In_dc : Type := (insSh M_dc).den
abbrev Out_dc : Type := (outSh R_dc M_dc).den
abbrev C_dc (pre : In_dc -> Bool) (fn : In_dc -> Out_dc) : Prop := Sound Tryz.prog 34 ⟨M_dc, R_dc, pre, fn⟩
section
variable (g_db : In_db -> Out_db) (p_db : In_db -> Bool)
abbrev X_dc : Ctx := ctx tys 3 (conOf [(108, ⟨M_db, R_db, p_db, g_db⟩)]) (keepOf []) (fun _ => [])
noncomputable abbrev E_dc (k : Nat) (x : In_dc) : Option Out_dc := evFn (X_dc g_db p_db) Tryz.f34 R_dc M_dc k x
variable {g_db p_db}
theorem ev_dc (k : Nat)  : E_dc g_db p_db k (()) =
  (bif (p_db (((2000 : Int), ((2 : Int), (29 : Int))), ())) then (some ((g_db (((2000 : Int), ((2 : Int), (29 : Int))), ())).1, ())) else none) := by kernel_rfl
theorem S_dc (h_db : C_db p_db g_db) {pre : In_dc -> Bool} {fn : In_dc -> Out_dc} (hev : ∀ x, pre x = true -> ∃ k, E_dc g_db p_db k x = some (fn x)) : C_dc pre fn := sound tysOk mixed (fn := Tryz.f34) rfl rfl rfl (.cons h_db .nil) _ hev
end
/-! lFnBatOk -/
abbrev M_lFnBatOk : List Vm.Mode := [.imm L_u8]
abbrev R_lFnBatOk : List (RK × Sh) := [(.own, .bool)]
abbrev In_lFnBatOk : Type := (insSh M_lFnBatOk).den
abbrev Out_lFnBatOk : Type := (outSh R_lFnBatOk M_lFnBatOk).den
abbrev C_lFnBatOk (pre : In_lFnBatOk -> Bool) (fn : In_lFnBatOk -> Out_lFnBatOk) : Prop := Sound Tryz.prog 7 ⟨M_lFnBatOk, R_lFnBatOk, pre, fn⟩
section
variable (g_c1 : In_c1 -> Out_c1) (p_c1 : In_c1 -> Bool) (g_d6 : In_d6 -> Out_d6) (p_d6 : In_d6 -> Bool) (g_bb : In_bb -> Out_bb) (p_bb : In_bb -> Bool) (g_d7 : In_d7 -> Out_d7) (p_d7 : In_d7 -> Bool) (g_d8 : In_d8 -> Out_d8) (p_d8 : In_d8 -> Bool) (g_dc : In_dc -> Out_dc)
abbrev X_lFnBatOk : Ctx := ctx tys 62 (conOf [(36, ⟨M_c1, R_c1, p_c1, g_c1⟩), (37, ⟨M_d6, R_d6, p_d6, g_d6⟩), (33, ⟨M_bb, R_bb, p_bb, g_bb⟩), (31, ⟨M_d7, R_d7, p_d7, g_d7⟩), (32, ⟨M_d8, R_d8, p_d8, g_d8⟩), (34, ⟨M_dc, R_dc, fun _ => true, g_dc⟩)]) (keepOf []) (fun _ => [])
noncomputable abbrev E_lFnBatOk (k : Nat) (x : In_lFnBatOk) : Option Out_lFnBatOk := evFn (X_lFnBatOk g_c1 p_c1 g_d6 p_d6 g_bb p_bb g_d7 p_d7 g_d8 p_d8 g_dc) Tryz.f7 R_lFnBatOk M_lFnBatOk k x
variable {g_c1 p_c1 g_d6 p_d6 g_bb p_bb g_d7 p_d7 g_d8 p_d8 g_dc}
theorem ev_lFnBatOk (k : Nat) (x0 : Dm (.imm L_u8)) : E_lFnBatOk g_c1 p_c1 g_d6 p_d6 g_bb p_bb g_d7 p_d7 g_d8 p_d8 g_dc k (x0, ()) =
  (bif (decide ((1048576 : Int) < (List.length x0 : Int))) then (some (true, ())) else (cl (p_c1 (x0, ())) (g_c1 (x0, ())) fun y0 => (cl (p_d6 (y0.1, ())) (g_d6 (y0.1, ())) fun y1 => (cl (p_bb (y0.1, ())) (g_bb (y0.1, ())) fun y2 => (bif (bif (y1.1 == y2.1) then false else true) then (some (false, ())) else (cl (p_d7 (y0.1, ())) (g_d7 (y0.1, ())) fun y3 => (cl (p_d8 (y0.1, ())) (g_d8 (y0.1, ())) fun y4 => (bif (bif (y3.1 == y4.1) then false else true) then (some (false, ())) else (bif (decide ((1 : Int) <= y0.1.2.2.2.1)) then (bif (decide (y0.1.2.2.2.1 = (2 : Int))) then (cl (p_d6 ((y0.1.1, (y0.1.2.1, (y0.1.2.2.1, ((1 : Int), y0.1.2.2.2.2)))), ())) (g_d6 ((y0.1.1, (y0.1.2.1, (y0.1.2.2.1, ((1 : Int), y0.1.2.2.2.2)))), ())) fun y5 => (bif y5.1 then (bif (decide (y0.1.2.2.2.1 <= (4 : Int))) then (cl (p_d7 ((y0.1.1, (y0.1.2.1, (y0.1.2.2.1, ((1 : Int), y0.1.2.2.2.2)))), ())) (g_d7 ((y0.1.1, (y0.1.2.1, (y0.1.2.2.1, ((1 : Int), y0.1.2.2.2.2)))), ())) fun y6 => (bif (y1.1 == y6.1) then (some ((g_dc ()).1, ())) else (some (false, ())))) else (bif (y1.1 == false) then (some ((g_dc ()).1, ())) else (some (false, ())))) else (bif (y1.1 == false) then (some ((g_dc ()).1, ())) else (some (false, ()))))) else (cl (p_d6 ((y0.1.1, (y0.1.2.1, (y0.1.2.2.1, ((1 : Int), y0.1.2.2.2.2)))), ())) (g_d6 ((y0.1.1, (y0.1.2.1, (y0.1.2.2.1, ((1 : Int), y0.1.2.2.2.2)))), ())) fun y7 => (bif y7.1 then (bif (decide (y0.1.2.2.2.1 <= (4 : Int))) then (bif (bif (decide (y0.1.2.2.2.1 = (4 : Int))) then false else true) then (bif (y1.1 == true) then (some ((g_dc ()).1, ())) else (some (false, ()))) else (cl (p_d7 ((y0.1.1, (y0.1.2.1, (y0.1.2.2.1, ((1 : Int), y0.1.2.2.2.2)))), ())) (g_d7 ((y0.1.1, (y0.1.2.1, (y0.1.2.2.1, ((1 : Int), y0.1.2.2.2.2)))), ())) fun y8 => (bif (y1.1 == y8.1) then (some ((g_dc ()).1, ())) else (some (false, ()))))) else (bif (y1.1 == false) then (some ((g_dc ()).1, ())) else (some (false, ())))) else (bif (y1.1 == false) then (some ((g_dc ()).1, ())) else (some (false, ())))))) else (bif (decide (y0.1.2.2.2.1 = (2 : Int))) then (cl (p_d6 ((y0.1.1, (y0.1.2.1, (y0.1.2.2.1, ((1 : Int), y0.1.2.2.2.2)))), ())) (g_d6 ((y0.1.1, (y0.1.2.1, (y0.1.2.2.1, ((1 : Int), y0.1.2.2.2.2)))), ())) fun y9 => (bif y9.1 then (bif (y1.1 == false) then (some ((g_dc ()).1, ())) else (some (false, ()))) else (bif (y1.1 == false) then (some ((g_dc ()).1, ())) else (some (false, ()))))) else (cl (p_d6 ((y0.1.1, (y0.1.2.1, (y0.1.2.2.1, ((1 : Int), y0.1.2.2.2.2)))), ())) (g_d6 ((y0.1.1, (y0.1.2.1, (y0.1.2.2.1, ((1 : Int), y0.1.2.2.2.2)))), ())) fun y10 => (bif y10.1 then (bif (y1.1 == false) then (some ((g_dc ()).1, ())) else (some (false, ()))) else (bif (y1.1 == false) then (some ((g_dc ()).1, ())) else (some (false, ()))))))))))))))) := by kernel_rfl
theorem S_lFnBatOk (h_c1 : C_c1 p_c1 g_c1) (h_d6 : C_d6 p_d6 g_d6) (h_bb : C_bb p_bb g_bb) (h_d7 : C_d7 p_d7 g_d7) (h_d8 : C_d8 p_d8 g_d8) (h_dc : C_dc (fun _ => true) g_dc) {pre : In_lFnBatOk -> Bool} {fn : In_lFnBatOk -> Out_lFnBatOk} (hev : ∀ x, pre x = true -> ∃ k, E_lFnBatOk g_c1 p_c1 g_d6 p_d6 g_bb p_bb g_d7 p_d7 g_d8 p_d8 g_dc k x = some (fn x)) : C_lFnBatOk pre fn := sound tysOk mixed (fn := Tryz.f7) rfl rfl rfl (.cons h_c1 (.cons h_d6 (.cons h_bb (.cons h_d7 (.cons h_d8 (.cons h_dc .nil)))))) _ hev
end
end Go.Proofs.YtmbmoenjhfkgkaaGreat
