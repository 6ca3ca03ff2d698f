/- The functions of the seat, evaluated: equations, checked by the kernel. Made by a program. -/
import Derived.Test.YtddpemilmeijfaaGreatFnBatDevEq0
set_option linter.unusedVariables false
set_option maxRecDepth 100000
namespace Go.Proofs.YtddpemilmeijfaaGreat
open Go.Vm
/-! cy: gContainsFunc_BatSig__iBatOk_c1 -/
abbrev M_cy : List Vm.Mode := [.imm L_BatSig, .clo 89 []]
abbrev R_cy : List (RK × Sh) := [(.imm, .bool)]
abbrev In_cy : Type := (insSh M_cy).den
abbrev Out_cy : Type := (outSh R_cy M_cy).den
abbrev C_cy (pre : In_cy -> Bool) (fn : In_cy -> Out_cy) : Prop := Sound Tryz.prog 91 ⟨M_cy, R_cy, pre, fn⟩
section
variable (g_cx : In_cx -> Out_cx) (p_cx : In_cx -> Bool)
abbrev X_cy : Ctx := ctx tys 9 (conOf [(158, ⟨M_cx, R_cx, p_cx, g_cx⟩)]) (keepOf []) (fun _ => [])
noncomputable abbrev E_cy (k : Nat) (x : In_cy) : Option Out_cy := evFn (X_cy g_cx p_cx) Tryz.f91 R_cy M_cy k x
variable {g_cx p_cx}
theorem ev_cy (k : Nat) (x0 : Dm (.imm L_BatSig)) (x1 : Dm (.clo 89 [])) : E_cy g_cx p_cx k (x0, x1, ()) =
  (cl (p_cx (x0, ((), ()))) (g_cx (x0, ((), ()))) fun y0 => (some ((decide ((0 : Int) <= y0.1)), ()))) := by kernel_rfl
theorem S_cy (h_cx : C_cx p_cx g_cx) {pre : In_cy -> Bool} {fn : In_cy -> Out_cy} (hev : ∀ x, pre x = true -> ∃ k, E_cy g_cx p_cx k x = some (fn x)) : C_cy pre fn := sound tysOk mixed (fn := Tryz.f91) rfl rfl rfl (.cons h_cx .nil) _ hev
end
/-! cz: iBatBatch_gate_c1 -/
abbrev M_cz : List Vm.Mode := [.imm S_TstTest]
abbrev R_cz : List (RK × Sh) := [(.imm, .bool)]
abbrev In_cz : Type := (insSh M_cz).den
abbrev Out_cz : Type := (outSh R_cz M_cz).den
abbrev C_cz (pre : In_cz -> Bool) (fn : In_cz -> Out_cz) : Prop := Sound Tryz.prog 144 ⟨M_cz, R_cz, pre, fn⟩
abbrev X_cz : Ctx := ctx tys 6 (conOf []) (keepOf []) (fun _ => [])
noncomputable abbrev E_cz (k : Nat) (x : In_cz) : Option Out_cz := evFn X_cz Tryz.f144 R_cz M_cz k x
theorem ev_cz (k : Nat) (x0 : Dm (.imm S_TstTest)) : E_cz k (x0, ()) =
  (some ((bif (decide (x0.2.1 = (3 : Int))) then false else true), ())) := by kernel_rfl
theorem S_cz  {pre : In_cz -> Bool} {fn : In_cz -> Out_cz} (hev : ∀ x, pre x = true -> ∃ k, E_cz k x = some (fn x)) : C_cz pre fn := sound tysOk mixed (fn := Tryz.f144) rfl rfl rfl ConsOk.nil _ hev
/-! d0: gIndexFunc_TstTest__iBatBatch_gate_c1 -/
abbrev M_d0 : List Vm.Mode := [.imm L_TstTest, .clo 144 []]
abbrev R_d0 : List (RK × Sh) := [(.imm, I)]
abbrev In_d0 : Type := (insSh M_d0).den
abbrev Out_d0 : Type := (outSh R_d0 M_d0).den
abbrev C_d0 (pre : In_d0 -> Bool) (fn : In_d0 -> Out_d0) : Prop := Sound Tryz.prog 96 ⟨M_d0, R_d0, pre, fn⟩
section
variable (g_cz : In_cz -> Out_cz)
abbrev X_d0 : Ctx := ctx tys 19 (conOf [(144, ⟨M_cz, R_cz, fun _ => true, g_cz⟩)]) (keepOf [(pt1, (⟨[(0, .asis), (1, .asis), (7, .asis), (8, .asis)], [], []⟩ : Keep))]) (fun _ => [])
noncomputable abbrev E_d0 (k : Nat) (x : In_d0) : Option Out_d0 := evFn (X_d0 g_cz) Tryz.f96 R_d0 M_d0 k x
def h0_d0 (x0 : Dm (.imm L_TstTest)) (x1 : Dm (.clo 144 [])) (h0 : Dn I) (h1 : Dn I) : St := mkS [(0, (AV.val L_TstTest x0)), (1, (AV.fn 144 [])), (7, (AV.val I h0)), (8, (AV.val I h1))] []
noncomputable def r_d0 (x : In_d0) (k : Nat) (p : List Bool) (s : St) : Option Out_d0 := rounds (X_d0 g_cz) Tryz.f96 R_d0 M_d0 x k p s
variable {g_cz}
theorem ev_d0 (k : Nat) (x0 : Dm (.imm L_TstTest)) (x1 : Dm (.clo 144 [])) : E_d0 g_cz k (x0, x1, ()) =
  (r_d0 g_cz (x0, x1, ()) k pt1 (h0_d0 x0 x1 (List.length x0 : Int) (0 : Int))) := by kernel_rfl
theorem rd0_d0 (k : Nat) (x0 : Dm (.imm L_TstTest)) (x1 : Dm (.clo 144 [])) (h0 : Dn I) (h1 : Dn I) : r_d0 g_cz (x0, x1, ()) (k + 1) pt1 (h0_d0 x0 x1 h0 h1) =
  (bif (decide (h1 < h0)) then (bif (bif (decide ((0 : Int) <= h1)) then (decide (h1 < (List.length x0 : Int))) else false) then (bif (g_cz ((rdL (e := S_TstTest) x0 h1), ())).1 then (some (h1, ())) else (r_d0 g_cz (x0, x1, ()) k pt1 (h0_d0 x0 x1 h0 (w64 (h1 + (1 : Int)))))) else none) else (some ((-1 : Int), ()))) := by kernel_rfl
theorem S_d0 (h_cz : C_cz (fun _ => true) g_cz) {pre : In_d0 -> Bool} {fn : In_d0 -> Out_d0} (hev : ∀ x, pre x = true -> ∃ k, E_d0 g_cz k x = some (fn x)) : C_d0 pre fn := sound tysOk mixed (fn := Tryz.f96) rfl rfl rfl (.cons h_cz .nil) _ hev
end
/-! d1: gContainsFunc_TstTest__iBatBatch_gate_c1 -/
abbrev M_d1 : List Vm.Mode := [.imm L_TstTest, .clo 144 []]
abbrev R_d1 : List (RK × Sh) := [(.imm, .bool)]
abbrev In_d1 : Type := (insSh M_d1).den
abbrev Out_d1 : Type := (outSh R_d1 M_d1).den
abbrev C_d1 (pre : In_d1 -> Bool) (fn : In_d1 -> Out_d1) : Prop := Sound Tryz.prog 145 ⟨M_d1, R_d1, pre, fn⟩
section
variable (g_d0 : In_d0 -> Out_d0) (p_d0 : In_d0 -> Bool)
abbrev X_d1 : Ctx := ctx tys 9 (conOf [(96, ⟨M_d0, R_d0, p_d0, g_d0⟩)]) (keepOf []) (fun _ => [])
noncomputable abbrev E_d1 (k : Nat) (x : In_d1) : Option Out_d1 := evFn (X_d1 g_d0 p_d0) Tryz.f145 R_d1 M_d1 k x
variable {g_d0 p_d0}
theorem ev_d1 (k : Nat) (x0 : Dm (.imm L_TstTest)) (x1 : Dm (.clo 144 [])) : E_d1 g_d0 p_d0 k (x0, x1, ()) =
  (cl (p_d0 (x0, ((), ()))) (g_d0 (x0, ((), ()))) fun y0 => (some ((decide ((0 : Int) <= y0.1)), ()))) := by kernel_rfl
theorem S_d1 (h_d0 : C_d0 p_d0 g_d0) {pre : In_d1 -> Bool} {fn : In_d1 -> Out_d1} (hev : ∀ x, pre x = true -> ∃ k, E_d1 g_d0 p_d0 k x = some (fn x)) : C_d1 pre fn := sound tysOk mixed (fn := Tryz.f145) rfl rfl rfl (.cons h_d0 .nil) _ hev
end
/-! d2: gIndex_bool -/
abbrev M_d2 : List Vm.Mode := [.imm L_bool, .imm .bool]
abbrev R_d2 : List (RK × Sh) := [(.imm, I)]
abbrev In_d2 : Type := (insSh M_d2).den
abbrev Out_d2 : Type := (outSh R_d2 M_d2).den
abbrev C_d2 (pre : In_d2 -> Bool) (fn : In_d2 -> Out_d2) : Prop := Sound Tryz.prog 189 ⟨M_d2, R_d2, pre, fn⟩
abbrev X_d2 : Ctx := ctx tys 19 (conOf []) (keepOf [(pt1, (⟨[(0, .asis), (1, .asis), (7, .asis), (8, .asis)], [], []⟩ : Keep))]) (fun _ => [])
noncomputable abbrev E_d2 (k : Nat) (x : In_d2) : Option Out_d2 := evFn X_d2 Tryz.f189 R_d2 M_d2 k x
def h0_d2 (x0 : Dm (.imm L_bool)) (x1 : Dm (.imm .bool)) (h0 : Dn I) (h1 : Dn I) : St := mkS [(0, (AV.val L_bool x0)), (1, (AV.val Sh.bool x1)), (7, (AV.val I h0)), (8, (AV.val I h1))] []
noncomputable def r_d2 (x : In_d2) (k : Nat) (p : List Bool) (s : St) : Option Out_d2 := rounds X_d2 Tryz.f189 R_d2 M_d2 x k p s
theorem ev_d2 (k : Nat) (x0 : Dm (.imm L_bool)) (x1 : Dm (.imm .bool)) : E_d2 k (x0, x1, ()) =
  (r_d2  (x0, x1, ()) k pt1 (h0_d2 x0 x1 (List.length x0 : Int) (0 : Int))) := by kernel_rfl
theorem rd0_d2 (k : Nat) (x0 : Dm (.imm L_bool)) (x1 : Dm (.imm .bool)) (h0 : Dn I) (h1 : Dn I) : r_d2  (x0, x1, ()) (k + 1) pt1 (h0_d2 x0 x1 h0 h1) =
  (bif (decide (h1 < h0)) then (bif (bif (decide ((0 : Int) <= h1)) then (decide (h1 < (List.length x0 : Int))) else false) then (bif (x1 == (rdL (e := Sh.bool) x0 h1)) then (some (h1, ())) else (r_d2  (x0, x1, ()) k pt1 (h0_d2 x0 x1 h0 (w64 (h1 + (1 : Int)))))) else none) else (some ((-1 : Int), ()))) := by kernel_rfl
theorem S_d2  {pre : In_d2 -> Bool} {fn : In_d2 -> Out_d2} (hev : ∀ x, pre x = true -> ∃ k, E_d2 k x = some (fn x)) : C_d2 pre fn := sound tysOk mixed (fn := Tryz.f189) rfl rfl rfl ConsOk.nil _ hev
/-! d3: gContains_bool -/
abbrev M_d3 : List Vm.Mode := [.imm L_bool, .imm .bool]
abbrev R_d3 : List (RK × Sh) := [(.imm, .bool)]
abbrev In_d3 : Type := (insSh M_d3).den
abbrev Out_d3 : Type := (outSh R_d3 M_d3).den
abbrev C_d3 (pre : In_d3 -> Bool) (fn : In_d3 -> Out_d3) : Prop := Sound Tryz.prog 146 ⟨M_d3, R_d3, pre, fn⟩
section
variable (g_d2 : In_d2 -> Out_d2) (p_d2 : In_d2 -> Bool)
abbrev X_d3 : Ctx := ctx tys 9 (conOf [(189, ⟨M_d2, R_d2, p_d2, g_d2⟩)]) (keepOf []) (fun _ => [])
noncomputable abbrev E_d3 (k : Nat) (x : In_d3) : Option Out_d3 := evFn (X_d3 g_d2 p_d2) Tryz.f146 R_d3 M_d3 k x
variable {g_d2 p_d2}
theorem ev_d3 (k : Nat) (x0 : Dm (.imm L_bool)) (x1 : Dm (.imm .bool)) : E_d3 g_d2 p_d2 k (x0, x1, ()) =
  (cl (p_d2 (x0, (x1, ()))) (g_d2 (x0, (x1, ()))) fun y0 => (some ((decide ((0 : Int) <= y0.1)), ()))) := by kernel_rfl
theorem S_d3 (h_d2 : C_d2 p_d2 g_d2) {pre : In_d3 -> Bool} {fn : In_d3 -> Out_d3} (hev : ∀ x, pre x = true -> ∃ k, E_d3 g_d2 p_d2 k x = some (fn x)) : C_d3 pre fn := sound tysOk mixed (fn := Tryz.f146) rfl rfl rfl (.cons h_d2 .nil) _ hev
end
/-! d4: imixed -/
abbrev M_d4 : List Vm.Mode := [.imm I, .imm L_int]
abbrev R_d4 : List (RK × Sh) := [(.imm, I)]
abbrev In_d4 : Type := (insSh M_d4).den
abbrev Out_d4 : Type := (outSh R_d4 M_d4).den
abbrev C_d4 (pre : In_d4 -> Bool) (fn : In_d4 -> Out_d4) : Prop := Sound Tryz.prog 82 ⟨M_d4, R_d4, pre, fn⟩
abbrev X_d4 : Ctx := ctx tys 23 (conOf []) (keepOf [(pt1, (⟨[(0, .asis), (7, .asis), (8, .asis), (9, .asis)], [], []⟩ : Keep))]) (fun _ => [])
noncomputable abbrev E_d4 (k : Nat) (x : In_d4) : Option Out_d4 := evFn X_d4 Tryz.f82 R_d4 M_d4 k x
def h0_d4 (x0 : Dm (.imm I)) (x1 : Dm (.imm L_int)) (h0 : Dn I) (h1 : Dn I) (h2 : Dn I) : St := mkS [(0, (AV.val I h0)), (7, (AV.val L_int x1)), (8, (AV.val I h1)), (9, (AV.val I h2))] []
noncomputable def r_d4 (x : In_d4) (k : Nat) (p : List Bool) (s : St) : Option Out_d4 := rounds X_d4 Tryz.f82 R_d4 M_d4 x k p s
theorem ev_d4 (k : Nat) (x0 : Dm (.imm I)) (x1 : Dm (.imm L_int)) : E_d4 k (x0, x1, ()) =
  (r_d4  (x0, x1, ()) k pt1 (h0_d4 x0 x1 x0 (List.length x1 : Int) (0 : Int))) := by kernel_rfl
theorem rd0_d4 (k : Nat) (x0 : Dm (.imm I)) (x1 : Dm (.imm L_int)) (h0 : Dn I) (h1 : Dn I) (h2 : Dn I) : r_d4  (x0, x1, ()) (k + 1) pt1 (h0_d4 x0 x1 h0 h1 h2) =
  (bif (decide (h2 < h1)) then (bif (bif (decide ((0 : Int) <= h2)) then (decide (h2 < (List.length x1 : Int))) else false) then (bif (bif (decide ((999983 : Int) = (0 : Int))) then false else true) then (bif (bif (decide ((999983 : Int) = (0 : Int))) then false else true) then (r_d4  (x0, x1, ()) k pt1 (h0_d4 x0 x1 (Int.tmod (w64 ((w64 ((w64 ((w64 (h0 * (8191 : Int))) + (Int.tmod (rdL (e := I) x1 h2) (999983 : Int)))) + (999983 : Int))) + (7 : Int))) (999983 : Int)) h1 (w64 (h2 + (1 : Int))))) else none) else none) else none) else (some (h0, ()))) := by kernel_rfl
theorem S_d4  {pre : In_d4 -> Bool} {fn : In_d4 -> Out_d4} (hev : ∀ x, pre x = true -> ∃ k, E_d4 k x = some (fn x)) : C_d4 pre fn := sound tysOk mixed (fn := Tryz.f82) rfl rfl rfl ConsOk.nil _ hev
/-! d5: iBatMark -/
abbrev M_d5 : List Vm.Mode := [.imm S_BatBatch]
abbrev R_d5 : List (RK × Sh) := [(.imm, I)]
abbrev In_d5 : Type := (insSh M_d5).den
abbrev Out_d5 : Type := (outSh R_d5 M_d5).den
abbrev C_d5 (pre : In_d5 -> Bool) (fn : In_d5 -> Out_d5) : Prop := Sound Tryz.prog 29 ⟨M_d5, R_d5, pre, fn⟩
section
variable (g_d4 : In_d4 -> Out_d4) (p_d4 : In_d4 -> Bool)
abbrev X_d5 : Ctx := ctx tys 69 (conOf [(82, ⟨M_d4, R_d4, p_d4, g_d4⟩)]) (keepOf [(pt2, (⟨[(3, .asis), (51, .asis), (52, .asis), (53, .asis)], [], []⟩ : Keep)), (pt7, (⟨[(1, .asis), (3, .asis), (15, .asis), (16, .asis), (17, .asis), (35, .asis), (36, .asis), (37, .asis)], [(1, .asis)], []⟩ : Keep)), (pt0, (⟨[(1, .asis), (3, .asis), (15, .asis), (16, .asis), (17, .asis)], [(1, .asis)], []⟩ : Keep))]) (fun _ => [])
noncomputable abbrev E_d5 (k : Nat) (x : In_d5) : Option Out_d5 := evFn (X_d5 g_d4 p_d4) Tryz.f29 R_d5 M_d5 k x
def h0_d5 (x0 : Dm (.imm S_BatBatch)) (h0 : Dn I) (h1 : Dn I) (h2 : Dn I) : St := mkS [(1, (AV.ptr 1 none [])), (3, (AV.val I h0)), (15, (AV.val L_TstTest x0.2.2.1)), (16, (AV.val I h1)), (17, (AV.val I h2))] [(1, (Ob.box S_BatBatch (AV.val S_BatBatch x0)))]
def h1_d5 (x0 : Dm (.imm S_BatBatch)) (h0 : Dn I) (h1 : Dn I) (h2 : Dn I) (h3 : Dn L_DecDec) (h4 : Dn I) (h5 : Dn I) : St := mkS [(1, (AV.ptr 1 none [])), (3, (AV.val I h0)), (15, (AV.val L_TstTest x0.2.2.1)), (16, (AV.val I h1)), (17, (AV.val I h2)), (35, (AV.val L_DecDec h3)), (36, (AV.val I h4)), (37, (AV.val I h5))] [(1, (Ob.box S_BatBatch (AV.val S_BatBatch x0)))]
def h2_d5 (x0 : Dm (.imm S_BatBatch)) (h0 : Dn I) (h1 : Dn I) (h2 : Dn I) : St := mkS [(3, (AV.val I h0)), (51, (AV.val L_bool x0.2.2.2.2.2)), (52, (AV.val I h1)), (53, (AV.val I h2))] []
noncomputable def r_d5 (x : In_d5) (k : Nat) (p : List Bool) (s : St) : Option Out_d5 := rounds (X_d5 g_d4 p_d4) Tryz.f29 R_d5 M_d5 x k p s
variable {g_d4 p_d4}
theorem ev_d5 (k : Nat) (x0 : Dm (.imm S_BatBatch)) : E_d5 g_d4 p_d4 k (x0, ()) =
  (cl (p_d4 ((1 : Int), ([x0.1], ()))) (g_d4 ((1 : Int), ([x0.1], ()))) fun y0 => (r_d5 g_d4 p_d4 (x0, ()) k pt0 (h0_d5 x0 (y0.1) (List.length x0.2.2.1 : Int) (0 : Int)))) := by kernel_rfl
theorem rd0_d5 (k : Nat) (x0 : Dm (.imm S_BatBatch)) (h0 : Dn I) (h1 : Dn I) (h2 : Dn I) : r_d5 g_d4 p_d4 (x0, ()) (k + 1) pt0 (h0_d5 x0 h0 h1 h2) =
  (lt (rdL (e := S_TstTest) x0.2.2.1 h2) fun s0 => (bif (decide (h2 < h1)) then (bif (bif (decide ((0 : Int) <= h2)) then (decide (h2 < (List.length x0.2.2.1 : Int))) else false) then (cl (p_d4 (h0, ([(s0.2.1), (s0.2.2.1.1), (s0.2.2.1.2), (s0.2.2.2.1)], ()))) (g_d4 (h0, ([(s0.2.1), (s0.2.2.1.1), (s0.2.2.1.2), (s0.2.2.2.1)], ()))) fun y0 => (r_d5 g_d4 p_d4 (x0, ()) k pt7 (h1_d5 x0 (y0.1) h1 h2 (s0.2.2.2.2) (List.length s0.2.2.2.2 : Int) (0 : Int)))) else none) else (r_d5 g_d4 p_d4 (x0, ()) k pt2 (h2_d5 x0 h0 (List.length x0.2.2.2.2.2 : Int) (0 : Int))))) := by kernel_rfl
theorem rd1_d5 (k : Nat) (x0 : Dm (.imm S_BatBatch)) (h0 : Dn I) (h1 : Dn I) (h2 : Dn I) (h3 : Dn L_DecDec) (h4 : Dn I) (h5 : Dn I) : r_d5 g_d4 p_d4 (x0, ()) (k + 1) pt7 (h1_d5 x0 h0 h1 h2 h3 h4 h5) =
  (bif (decide (h5 < h4)) then (bif (bif (decide ((0 : Int) <= h5)) then (decide (h5 < (List.length h3 : Int))) else false) then (cl (p_d4 (h0, ([((rdL (e := S_DecDec) h3 h5).1), ((rdL (e := S_DecDec) h3 h5).2)], ()))) (g_d4 (h0, ([((rdL (e := S_DecDec) h3 h5).1), ((rdL (e := S_DecDec) h3 h5).2)], ()))) fun y0 => (r_d5 g_d4 p_d4 (x0, ()) k pt7 (h1_d5 x0 (y0.1) h1 h2 h3 h4 (w64 (h5 + (1 : Int)))))) else none) else (r_d5 g_d4 p_d4 (x0, ()) k pt0 (h0_d5 x0 h0 h1 (w64 (h2 + (1 : Int)))))) := by kernel_rfl
theorem rd2_d5 (k : Nat) (x0 : Dm (.imm S_BatBatch)) (h0 : Dn I) (h1 : Dn I) (h2 : Dn I) : r_d5 g_d4 p_d4 (x0, ()) (k + 1) pt2 (h2_d5 x0 h0 h1 h2) =
  (bif (decide (h2 < h1)) then (bif (bif (decide ((0 : Int) <= h2)) then (decide (h2 < (List.length x0.2.2.2.2.2 : Int))) else false) then (cl (p_d4 (h0, ([(w64 (h2 + (1 : Int)))], ()))) (g_d4 (h0, ([(w64 (h2 + (1 : Int)))], ()))) fun y0 => (bif (rdL (e := Sh.bool) x0.2.2.2.2.2 h2) then (cl (p_d4 (y0.1, ([(77 : Int)], ()))) (g_d4 (y0.1, ([(77 : Int)], ()))) fun y1 => (r_d5 g_d4 p_d4 (x0, ()) k pt2 (h2_d5 x0 (y1.1) h1 (w64 (h2 + (1 : Int)))))) else (r_d5 g_d4 p_d4 (x0, ()) k pt2 (h2_d5 x0 (y0.1) h1 (w64 (h2 + (1 : Int))))))) else none) else (some (h0, ()))) := by kernel_rfl
theorem S_d5 (h_d4 : C_d4 p_d4 g_d4) {pre : In_d5 -> Bool} {fn : In_d5 -> Out_d5} (hev : ∀ x, pre x = true -> ∃ k, E_d5 g_d4 p_d4 k x = some (fn x)) : C_d5 pre fn := sound tysOk mixed (fn := Tryz.f29) rfl rfl rfl (.cons h_d4 .nil) _ hev
end
/-! d6: iBatSigned -/
abbrev M_d6 : List Vm.Mode := [.imm S_BatBatch, .imm I, .imm I]
abbrev R_d6 : List (RK × Sh) := [(.imm, I)]
abbrev In_d6 : Type := (insSh M_d6).den
abbrev Out_d6 : Type := (outSh R_d6 M_d6).den
abbrev C_d6 (pre : In_d6 -> Bool) (fn : In_d6 -> Out_d6) : Prop := Sound Tryz.prog 33 ⟨M_d6, R_d6, pre, fn⟩
section
variable (g_d5 : In_d5 -> Out_d5) (p_d5 : In_d5 -> Bool)
abbrev X_d6 : Ctx := ctx tys 38 (conOf [(29, ⟨M_d5, R_d5, p_d5, g_d5⟩)]) (keepOf [(pt0, (⟨[(1, .asis), (2, .asis), (7, .asis), (13, .asis), (14, .asis), (15, .asis)], [], []⟩ : Keep))]) (fun _ => [])
noncomputable abbrev E_d6 (k : Nat) (x : In_d6) : Option Out_d6 := evFn (X_d6 g_d5 p_d5) Tryz.f33 R_d6 M_d6 k x
def h0_d6 (x0 : Dm (.imm S_BatBatch)) (x1 : Dm (.imm I)) (x2 : Dm (.imm I)) (h0 : Dn I) (h1 : Dn I) (h2 : Dn I) : St := mkS [(1, (AV.val I x1)), (2, (AV.val I x2)), (7, (AV.val I h0)), (13, (AV.val L_BatSig x0.2.2.2.2.1)), (14, (AV.val I h1)), (15, (AV.val I h2))] []
noncomputable def r_d6 (x : In_d6) (k : Nat) (p : List Bool) (s : St) : Option Out_d6 := rounds (X_d6 g_d5 p_d5) Tryz.f33 R_d6 M_d6 x k p s
variable {g_d5 p_d5}
theorem ev_d6 (k : Nat) (x0 : Dm (.imm S_BatBatch)) (x1 : Dm (.imm I)) (x2 : Dm (.imm I)) : E_d6 g_d5 p_d5 k (x0, x1, x2, ()) =
  (cl (p_d5 (x0, ())) (g_d5 (x0, ())) fun y0 => (r_d6 g_d5 p_d5 (x0, x1, x2, ()) k pt0 (h0_d6 x0 x1 x2 (y0.1) (List.length x0.2.2.2.2.1 : Int) (0 : Int)))) := by kernel_rfl
theorem rd0_d6 (k : Nat) (x0 : Dm (.imm S_BatBatch)) (x1 : Dm (.imm I)) (x2 : Dm (.imm I)) (h0 : Dn I) (h1 : Dn I) (h2 : Dn I) : r_d6 g_d5 p_d5 (x0, x1, x2, ()) (k + 1) pt0 (h0_d6 x0 x1 x2 h0 h1 h2) =
  (bif (decide (h2 < h1)) then (bif (bif (decide ((0 : Int) <= h2)) then (decide (h2 < (List.length x0.2.2.2.2.1 : Int))) else false) then (bif (decide ((rdL (e := S_BatSig) x0.2.2.2.2.1 h2).2.1 = x1)) then (bif (decide ((rdL (e := S_BatSig) x0.2.2.2.2.1 h2).2.2 = h0)) then (bif (bif (decide ((rdL (e := S_BatSig) x0.2.2.2.2.1 h2).1 = x2)) then false else true) then (some ((rdL (e := S_BatSig) x0.2.2.2.2.1 h2).1, ())) else (r_d6 g_d5 p_d5 (x0, x1, x2, ()) k pt0 (h0_d6 x0 x1 x2 h0 h1 (w64 (h2 + (1 : Int)))))) else (r_d6 g_d5 p_d5 (x0, x1, x2, ()) k pt0 (h0_d6 x0 x1 x2 h0 h1 (w64 (h2 + (1 : Int)))))) else (r_d6 g_d5 p_d5 (x0, x1, x2, ()) k pt0 (h0_d6 x0 x1 x2 h0 h1 (w64 (h2 + (1 : Int)))))) else none) else (some ((0 : Int), ()))) := by kernel_rfl
theorem S_d6 (h_d5 : C_d5 p_d5 g_d5) {pre : In_d6 -> Bool} {fn : In_d6 -> Out_d6} (hev : ∀ x, pre x = true -> ∃ k, E_d6 g_d5 p_d5 k x = some (fn x)) : C_d6 pre fn := sound tysOk mixed (fn := Tryz.f33) rfl rfl rfl (.cons h_d5 .nil) _ hev
end
/-! d7: iBatBatch_gate_c2 -/
abbrev M_d7 : List Vm.Mode := [.imm S_BatSig, .pR I, .pR S_BatBatch]
abbrev R_d7 : List (RK × Sh) := [(.imm, .bool)]
abbrev In_d7 : Type := (insSh M_d7).den
abbrev Out_d7 : Type := (outSh R_d7 M_d7).den
abbrev C_d7 (pre : In_d7 -> Bool) (fn : In_d7 -> Out_d7) : Prop := Sound Tryz.prog 147 ⟨M_d7, R_d7, pre, fn⟩
section
variable (g_d6 : In_d6 -> Out_d6) (p_d6 : In_d6 -> Bool)
abbrev X_d7 : Ctx := ctx tys 21 (conOf [(33, ⟨M_d6, R_d6, p_d6, g_d6⟩)]) (keepOf []) (fun _ => [])
noncomputable abbrev E_d7 (k : Nat) (x : In_d7) : Option Out_d7 := evFn (X_d7 g_d6 p_d6) Tryz.f147 R_d7 M_d7 k x
variable {g_d6 p_d6}
theorem ev_d7 (k : Nat) (x0 : Dm (.imm S_BatSig)) (x1 : Dm (.pR I)) (x2 : Dm (.pR S_BatBatch)) : E_d7 g_d6 p_d6 k (x0, x1, x2, ()) =
  (bif (decide (x0.2.1 = (2 : Int))) then (bif (decide (x0.2.2 = x1)) then (cl (p_d6 (x2, ((3 : Int), (x0.1, ())))) (g_d6 (x2, ((3 : Int), (x0.1, ())))) fun y0 => (some ((decide ((0 : Int) < y0.1)), ()))) else (some (false, ()))) else (some (false, ()))) := by kernel_rfl
theorem S_d7 (h_d6 : C_d6 p_d6 g_d6) {pre : In_d7 -> Bool} {fn : In_d7 -> Out_d7} (hev : ∀ x, pre x = true -> ∃ k, E_d7 g_d6 p_d6 k x = some (fn x)) : C_d7 pre fn := sound tysOk mixed (fn := Tryz.f147) rfl rfl rfl (.cons h_d6 .nil) _ hev
end
/-! d8: gIndexFunc_BatSig__iBatBatch_gate_c2 -/
abbrev M_d8 : List Vm.Mode := [.imm L_BatSig, .clo 147 [I, S_BatBatch]]
abbrev R_d8 : List (RK × Sh) := [(.imm, I)]
abbrev In_d8 : Type := (insSh M_d8).den
abbrev Out_d8 : Type := (outSh R_d8 M_d8).den
abbrev C_d8 (pre : In_d8 -> Bool) (fn : In_d8 -> Out_d8) : Prop := Sound Tryz.prog 158 ⟨M_d8, R_d8, pre, fn⟩
section
variable (g_d7 : In_d7 -> Out_d7) (p_d7 : In_d7 -> Bool)
abbrev X_d8 : Ctx := ctx tys 19 (conOf [(147, ⟨M_d7, R_d7, p_d7, g_d7⟩)]) (keepOf [(pt1, (⟨[(0, .asis), (1, .asis), (7, .asis), (8, .asis)], [(1000005000, .asis), (1000005001, .asis)], []⟩ : Keep))]) (fun _ => [])
noncomputable abbrev E_d8 (k : Nat) (x : In_d8) : Option Out_d8 := evFn (X_d8 g_d7 p_d7) Tryz.f158 R_d8 M_d8 k x
def h0_d8 (x0 : Dm (.imm L_BatSig)) (x1 : Dm (.clo 147 [I, S_BatBatch])) (h0 : Dn I) (h1 : Dn I) : St := mkS [(0, (AV.val L_BatSig x0)), (1, (AV.fn 147 [1000005000, 1000005001])), (7, (AV.val I h0)), (8, (AV.val I h1))] [(1000005000, (Ob.cbox I x1.1)), (1000005001, (Ob.cbox S_BatBatch x1.2.1))]
noncomputable def r_d8 (x : In_d8) (k : Nat) (p : List Bool) (s : St) : Option Out_d8 := rounds (X_d8 g_d7 p_d7) Tryz.f158 R_d8 M_d8 x k p s
variable {g_d7 p_d7}
theorem ev_d8 (k : Nat) (x0 : Dm (.imm L_BatSig)) (x1 : Dm (.clo 147 [I, S_BatBatch])) : E_d8 g_d7 p_d7 k (x0, x1, ()) =
  (r_d8 g_d7 p_d7 (x0, x1, ()) k pt1 (h0_d8 x0 x1 (List.length x0 : Int) (0 : Int))) := by kernel_rfl
theorem rd0_d8 (k : Nat) (x0 : Dm (.imm L_BatSig)) (x1 : Dm (.clo 147 [I, S_BatBatch])) (h0 : Dn I) (h1 : Dn I) : r_d8 g_d7 p_d7 (x0, x1, ()) (k + 1) pt1 (h0_d8 x0 x1 h0 h1) =
  (bif (decide (h1 < h0)) then (bif (bif (decide ((0 : Int) <= h1)) then (decide (h1 < (List.length x0 : Int))) else false) then (cl (p_d7 ((rdL (e := S_BatSig) x0 h1), (x1.1, (x1.2.1, ())))) (g_d7 ((rdL (e := S_BatSig) x0 h1), (x1.1, (x1.2.1, ())))) fun y0 => (bif y0.1 then (some (h1, ())) else (r_d8 g_d7 p_d7 (x0, x1, ()) k pt1 (h0_d8 x0 x1 h0 (w64 (h1 + (1 : Int))))))) else none) else (some ((-1 : Int), ()))) := by kernel_rfl
theorem S_d8 (h_d7 : C_d7 p_d7 g_d7) {pre : In_d8 -> Bool} {fn : In_d8 -> Out_d8} (hev : ∀ x, pre x = true -> ∃ k, E_d8 g_d7 p_d7 k x = some (fn x)) : C_d8 pre fn := sound tysOk mixed (fn := Tryz.f158) rfl rfl rfl (.cons h_d7 .nil) _ hev
end
/-! d9: gContainsFunc_BatSig__iBatBatch_gate_c2 -/
abbrev M_d9 : List Vm.Mode := [.imm L_BatSig, .clo 147 [I, S_BatBatch]]
abbrev R_d9 : List (RK × Sh) := [(.imm, .bool)]
abbrev In_d9 : Type := (insSh M_d9).den
abbrev Out_d9 : Type := (outSh R_d9 M_d9).den
abbrev C_d9 (pre : In_d9 -> Bool) (fn : In_d9 -> Out_d9) : Prop := Sound Tryz.prog 91 ⟨M_d9, R_d9, pre, fn⟩
section
variable (g_d8 : In_d8 -> Out_d8) (p_d8 : In_d8 -> Bool)
abbrev X_d9 : Ctx := ctx tys 9 (conOf [(158, ⟨M_d8, R_d8, p_d8, g_d8⟩)]) (keepOf []) (fun _ => [])
noncomputable abbrev E_d9 (k : Nat) (x : In_d9) : Option Out_d9 := evFn (X_d9 g_d8 p_d8) Tryz.f91 R_d9 M_d9 k x
variable {g_d8 p_d8}
theorem ev_d9 (k : Nat) (x0 : Dm (.imm L_BatSig)) (x1 : Dm (.clo 147 [I, S_BatBatch])) : E_d9 g_d8 p_d8 k (x0, x1, ()) =
  (cl (p_d8 (x0, ((x1.1, (x1.2.1, ())), ()))) (g_d8 (x0, ((x1.1, (x1.2.1, ())), ()))) fun y0 => (some ((decide ((0 : Int) <= y0.1)), ()))) := by kernel_rfl
theorem S_d9 (h_d8 : C_d8 p_d8 g_d8) {pre : In_d9 -> Bool} {fn : In_d9 -> Out_d9} (hev : ∀ x, pre x = true -> ∃ k, E_d9 g_d8 p_d8 k x = some (fn x)) : C_d9 pre fn := sound tysOk mixed (fn := Tryz.f91) rfl rfl rfl (.cons h_d8 .nil) _ hev
end
/-! da: iBatBatch_gate -/
abbrev M_da : List Vm.Mode := [.imm S_BatBatch]
abbrev R_da : List (RK × Sh) := [(.imm, .bool)]
abbrev In_da : Type := (insSh M_da).den
abbrev Out_da : Type := (outSh R_da M_da).den
abbrev C_da (pre : In_da -> Bool) (fn : In_da -> Out_da) : Prop := Sound Tryz.prog 79 ⟨M_da, R_da, pre, fn⟩
section
variable (g_d1 : In_d1 -> Out_d1) (p_d1 : In_d1 -> Bool) (g_d3 : In_d3 -> Out_d3) (p_d3 : In_d3 -> Bool) (g_d5 : In_d5 -> Out_d5) (p_d5 : In_d5 -> Bool) (g_d9 : In_d9 -> Out_d9) (p_d9 : In_d9 -> Bool)
abbrev X_da : Ctx := ctx tys 20 (conOf [(145, ⟨M_d1, R_d1, p_d1, g_d1⟩), (146, ⟨M_d3, R_d3, p_d3, g_d3⟩), (29, ⟨M_d5, R_d5, p_d5, g_d5⟩), (91, ⟨M_d9, R_d9, p_d9, g_d9⟩)]) (keepOf []) (fun _ => [])
noncomputable abbrev E_da (k : Nat) (x : In_da) : Option Out_da := evFn (X_da g_d1 p_d1 g_d3 p_d3 g_d5 p_d5 g_d9 p_d9) Tryz.f79 R_da M_da k x
variable {g_d1 p_d1 g_d3 p_d3 g_d5 p_d5 g_d9 p_d9}
theorem ev_da (k : Nat) (x0 : Dm (.imm S_BatBatch)) : E_da g_d1 p_d1 g_d3 p_d3 g_d5 p_d5 g_d9 p_d9 k (x0, ()) =
  (cl (p_d1 (x0.2.2.1, ((), ()))) (g_d1 (x0.2.2.1, ((), ()))) fun y0 => (bif y0.1 then (some (false, ())) else (cl (p_d3 (x0.2.2.2.2.2, (true, ()))) (g_d3 (x0.2.2.2.2.2, (true, ()))) fun y1 => (bif y1.1 then (some (false, ())) else (cl (p_d5 (x0, ())) (g_d5 (x0, ())) fun y2 => (cl (p_d9 (x0.2.2.2.2.1, ((y2.1, (x0, ())), ()))) (g_d9 (x0.2.2.2.2.1, ((y2.1, (x0, ())), ()))) fun y3 => (some (y3.1, ())))))))) := by kernel_rfl
theorem S_da (h_d1 : C_d1 p_d1 g_d1) (h_d3 : C_d3 p_d3 g_d3) (h_d5 : C_d5 p_d5 g_d5) (h_d9 : C_d9 p_d9 g_d9) {pre : In_da -> Bool} {fn : In_da -> Out_da} (hev : ∀ x, pre x = true -> ∃ k, E_da g_d1 p_d1 g_d3 p_d3 g_d5 p_d5 g_d9 p_d9 k x = some (fn x)) : C_da pre fn := sound tysOk mixed (fn := Tryz.f79) rfl rfl rfl (.cons h_d1 (.cons h_d3 (.cons h_d5 (.cons h_d9 .nil)))) _ hev
end
/-! db: iBatOk -/
abbrev M_db : List Vm.Mode := [.imm S_BatBatch]
abbrev R_db : List (RK × Sh) := [(.imm, .bool)]
abbrev In_db : Type := (insSh M_db).den
abbrev Out_db : Type := (outSh R_db M_db).den
abbrev C_db (pre : In_db -> Bool) (fn : In_db -> Out_db) : Prop := Sound Tryz.prog 34 ⟨M_db, R_db, pre, fn⟩
section
variable (g_iin : In_iin -> Out_iin) (g_cs : In_cs -> Out_cs) (p_cs : In_cs -> Bool) (g_cy : In_cy -> Out_cy) (p_cy : In_cy -> Bool) (g_da : In_da -> Out_da) (p_da : In_da -> Bool)
abbrev X_db : Ctx := ctx tys 87 (conOf [(65, ⟨M_iin, R_iin, fun _ => true, g_iin⟩), (88, ⟨M_cs, R_cs, p_cs, g_cs⟩), (91, ⟨M_cy, R_cy, p_cy, g_cy⟩), (79, ⟨M_da, R_da, p_da, g_da⟩)]) (keepOf [(pt0, (⟨[(1, .asis), (30, .asis), (31, .asis), (32, .asis)], [(1, .asis)], []⟩ : Keep))]) (fun _ => [])
noncomputable abbrev E_db (k : Nat) (x : In_db) : Option Out_db := evFn (X_db g_iin g_cs p_cs g_cy p_cy g_da p_da) Tryz.f34 R_db M_db k x
def h0_db (x0 : Dm (.imm S_BatBatch)) (h0 : Dn I) (h1 : Dn I) : St := mkS [(1, (AV.ptr 1 none [])), (30, (AV.val L_TstTest x0.2.2.1)), (31, (AV.val I h0)), (32, (AV.val I h1))] [(1, (Ob.box S_BatBatch (AV.val S_BatBatch x0)))]
noncomputable def r_db (x : In_db) (k : Nat) (p : List Bool) (s : St) : Option Out_db := rounds (X_db g_iin g_cs p_cs g_cy p_cy g_da p_da) Tryz.f34 R_db M_db x k p s
variable {g_iin g_cs p_cs g_cy p_cy g_da p_da}
theorem ev_db (k : Nat) (x0 : Dm (.imm S_BatBatch)) : E_db g_iin g_cs p_cs g_cy p_cy g_da p_da k (x0, ()) =
  (bif (bif (g_iin (x0.1, ((0 : Int), ((5 : Int), ())))).1 then false else true) then (some (false, ())) else (bif (bif (g_iin (x0.2.1, ((1 : Int), ((10000 : Int), ())))).1 then false else true) then (some (false, ())) else (bif (bif (g_iin ((List.length x0.2.2.1 : Int), ((1 : Int), ((4 : Int), ())))).1 then false else true) then (some (false, ())) else (bif (bif (g_iin (x0.2.2.2.1, ((1 : Int), ((4 : Int), ())))).1 then false else true) then (some (false, ())) else (r_db g_iin g_cs p_cs g_cy p_cy g_da p_da (x0, ()) k pt0 (h0_db x0 (List.length x0.2.2.1 : Int) (0 : Int))))))) := by kernel_rfl
theorem rd0_db (k : Nat) (x0 : Dm (.imm S_BatBatch)) (h0 : Dn I) (h1 : Dn I) : r_db g_iin g_cs p_cs g_cy p_cy g_da p_da (x0, ()) (k + 1) pt0 (h0_db x0 h0 h1) =
  (lt (rdL (e := S_TstTest) x0.2.2.1 h1) fun s1 => (lt (w64 (h1 - (1 : Int))) fun s0 => (bif (decide (h1 < h0)) then (bif (bif (decide ((0 : Int) <= h1)) then (decide (h1 < (List.length x0.2.2.1 : Int))) else false) then (cl (p_cs (s1, ())) (g_cs (s1, ())) fun y0 => (bif (bif y0.1 then false else true) then (some (false, ())) else (bif (decide ((0 : Int) < h1)) then (bif (bif (decide ((0 : Int) <= s0)) then (decide (s0 < (List.length x0.2.2.1 : Int))) else false) then (bif (decide (s1.1.1 <= (rdL (e := S_TstTest) x0.2.2.1 s0).1.1)) then (some (false, ())) else (r_db g_iin g_cs p_cs g_cy p_cy g_da p_da (x0, ()) k pt0 (h0_db x0 h0 (w64 (h1 + (1 : Int)))))) else none) else (r_db g_iin g_cs p_cs g_cy p_cy g_da p_da (x0, ()) k pt0 (h0_db x0 h0 (w64 (h1 + (1 : Int)))))))) else none) else (bif (decide ((6 : Int) < (List.length x0.2.2.2.2.1 : Int))) then (some (false, ())) else (cl (p_cy (x0.2.2.2.2.1, ((), ()))) (g_cy (x0.2.2.2.2.1, ((), ()))) fun y1 => (bif y1.1 then (some (false, ())) else (bif (decide ((3 : Int) < (List.length x0.2.2.2.2.2 : Int))) then (some (false, ())) else (bif (bif (decide (x0.2.2.2.1 = (2 : Int))) then false else true) then (bif (bif (decide (x0.2.2.2.1 = (4 : Int))) then false else true) then (some (true, ())) else (cl (p_da (x0, ())) (g_da (x0, ())) fun y2 => (some (y2.1, ())))) else (cl (p_da (x0, ())) (g_da (x0, ())) fun y3 => (some (y3.1, ()))))))))))) := by kernel_rfl
theorem S_db (h_iin : C_iin (fun _ => true) g_iin) (h_cs : C_cs p_cs g_cs) (h_cy : C_cy p_cy g_cy) (h_da : C_da p_da g_da) {pre : In_db -> Bool} {fn : In_db -> Out_db} (hev : ∀ x, pre x = true -> ∃ k, E_db g_iin g_cs p_cs g_cy p_cy g_da p_da k x = some (fn x)) : C_db pre fn := sound tysOk mixed (fn := Tryz.f34) rfl rfl rfl (.cons h_iin (.cons h_cs (.cons h_cy (.cons h_da .nil)))) _ hev
end
/-! dc: iBatDev_c1 -/
abbrev M_dc : List Vm.Mode := [.pO S_BatBatch, .pR .bool, .pR I]
abbrev R_dc : List (RK × Sh) := [(.imm, .bool)]
abbrev In_dc : Type := (insSh M_dc).den
abbrev Out_dc : Type := (outSh R_dc M_dc).den
abbrev C_dc (pre : In_dc -> Bool) (fn : In_dc -> Out_dc) : Prop := Sound Tryz.prog 92 ⟨M_dc, R_dc, pre, fn⟩
section
variable (g_iin : In_iin -> Out_iin)
abbrev X_dc : Ctx := ctx tys 55 (conOf [(65, ⟨M_iin, R_iin, fun _ => true, g_iin⟩)]) (keepOf []) (fun _ => [])
noncomputable abbrev E_dc (k : Nat) (x : In_dc) : Option Out_dc := evFn (X_dc g_iin) Tryz.f92 R_dc M_dc k x
variable {g_iin}
theorem ev_dc (k : Nat) (x0 : Dm (.pO S_BatBatch)) (x1 : Dm (.pR .bool)) (x2 : Dm (.pR I)) : E_dc g_iin k (x0, x1, x2, ()) =
  (bif x1 then (bif (decide (x2 = (List.length x0.2.2.2.2.2 : Int))) then (bif (decide (x2 < (3 : Int))) then (bif (fitL x0.2.2.2.2.2 [true]) then (some (true, ((x0.1, (x0.2.1, (x0.2.2.1, (x0.2.2.2.1, (x0.2.2.2.2.1, (List.append x0.2.2.2.2.2 [true])))))), ()))) else none) else (bif (bif x1 then false else true) then (bif (g_iin (x2, ((0 : Int), ((w64 ((List.length x0.2.2.2.2.2 : Int) - (1 : Int))), ())))).1 then (bif (bif (decide ((0 : Int) <= x2)) then (decide (x2 < (List.length x0.2.2.2.2.2 : Int))) else false) then (bif (rdL (e := Sh.bool) x0.2.2.2.2.2 x2) then (bif (bif (decide ((0 : Int) <= x2)) then (decide (x2 < (List.length x0.2.2.2.2.2 : Int))) else false) then (some (true, ((x0.1, (x0.2.1, (x0.2.2.1, (x0.2.2.2.1, (x0.2.2.2.2.1, (List.set x0.2.2.2.2.2 (Int.toNat x2) false)))))), ()))) else none) else (some (false, (x0, ())))) else none) else (some (false, (x0, ())))) else (some (false, (x0, ()))))) else (bif (bif x1 then false else true) then (bif (g_iin (x2, ((0 : Int), ((w64 ((List.length x0.2.2.2.2.2 : Int) - (1 : Int))), ())))).1 then (bif (bif (decide ((0 : Int) <= x2)) then (decide (x2 < (List.length x0.2.2.2.2.2 : Int))) else false) then (bif (rdL (e := Sh.bool) x0.2.2.2.2.2 x2) then (bif (bif (decide ((0 : Int) <= x2)) then (decide (x2 < (List.length x0.2.2.2.2.2 : Int))) else false) then (some (true, ((x0.1, (x0.2.1, (x0.2.2.1, (x0.2.2.2.1, (x0.2.2.2.2.1, (List.set x0.2.2.2.2.2 (Int.toNat x2) false)))))), ()))) else none) else (some (false, (x0, ())))) else none) else (some (false, (x0, ())))) else (some (false, (x0, ()))))) else (bif (bif x1 then false else true) then (bif (g_iin (x2, ((0 : Int), ((w64 ((List.length x0.2.2.2.2.2 : Int) - (1 : Int))), ())))).1 then (bif (bif (decide ((0 : Int) <= x2)) then (decide (x2 < (List.length x0.2.2.2.2.2 : Int))) else false) then (bif (rdL (e := Sh.bool) x0.2.2.2.2.2 x2) then (bif (bif (decide ((0 : Int) <= x2)) then (decide (x2 < (List.length x0.2.2.2.2.2 : Int))) else false) then (some (true, ((x0.1, (x0.2.1, (x0.2.2.1, (x0.2.2.2.1, (x0.2.2.2.2.1, (List.set x0.2.2.2.2.2 (Int.toNat x2) false)))))), ()))) else none) else (some (false, (x0, ())))) else none) else (some (false, (x0, ())))) else (some (false, (x0, ()))))) := by kernel_rfl
theorem S_dc (h_iin : C_iin (fun _ => true) g_iin) {pre : In_dc -> Bool} {fn : In_dc -> Out_dc} (hev : ∀ x, pre x = true -> ∃ k, E_dc g_iin k x = some (fn x)) : C_dc pre fn := sound tysOk mixed (fn := Tryz.f92) rfl rfl rfl (.cons h_iin .nil) _ hev
end
/-! dd: iBatBatch_open__iBatDev_c1 -/
abbrev M_dd : List Vm.Mode := [.imm S_BatBatch, .clo 92 [.bool, I]]
abbrev R_dd : List (RK × Sh) := [(.own, S_BatBatch), (.imm, .bool)]
abbrev In_dd : Type := (insSh M_dd).den
abbrev Out_dd : Type := (outSh R_dd M_dd).den
abbrev C_dd (pre : In_dd -> Bool) (fn : In_dd -> Out_dd) : Prop := Sound Tryz.prog 83 ⟨M_dd, R_dd, pre, fn⟩
section
variable (g_c6 : In_c6 -> Out_c6) (p_c6 : In_c6 -> Bool) (g_db : In_db -> Out_db) (p_db : In_db -> Bool) (g_dc : In_dc -> Out_dc) (p_dc : In_dc -> Bool)
abbrev X_dd : Ctx := ctx tys 23 (conOf [(104, ⟨M_c6, R_c6, p_c6, g_c6⟩), (34, ⟨M_db, R_db, p_db, g_db⟩), (92, ⟨M_dc, R_dc, p_dc, g_dc⟩)]) (keepOf []) (fun _ => [])
noncomputable abbrev E_dd (k : Nat) (x : In_dd) : Option Out_dd := evFn (X_dd g_c6 p_c6 g_db p_db g_dc p_dc) Tryz.f83 R_dd M_dd k x
variable {g_c6 p_c6 g_db p_db g_dc p_dc}
theorem ev_dd (k : Nat) (x0 : Dm (.imm S_BatBatch)) (x1 : Dm (.clo 92 [.bool, I])) : E_dd g_c6 p_c6 g_db p_db g_dc p_dc k (x0, x1, ()) =
  (cl (p_c6 (x0, ())) (g_c6 (x0, ())) fun y0 => (cl (p_db (x0, ())) (g_db (x0, ())) fun y1 => (bif (bif y1.1 then false else true) then (some (y0.1, (false, ()))) else (bif (bif (decide (x0.2.2.2.1 = (1 : Int))) then false else true) then (some (y0.1, (false, ()))) else (cl (p_dc (y0.1, (x1.1, (x1.2.1, ())))) (g_dc (y0.1, (x1.1, (x1.2.1, ())))) fun y2 => (some (y2.2.1, (y2.1, ())))))))) := by kernel_rfl
theorem S_dd (h_c6 : C_c6 p_c6 g_c6) (h_db : C_db p_db g_db) (h_dc : C_dc p_dc g_dc) {pre : In_dd -> Bool} {fn : In_dd -> Out_dd} (hev : ∀ x, pre x = true -> ∃ k, E_dd g_c6 p_c6 g_db p_db g_dc p_dc k x = some (fn x)) : C_dd pre fn := sound tysOk mixed (fn := Tryz.f83) rfl rfl rfl (.cons h_c6 (.cons h_db (.cons h_dc .nil))) _ hev
end
/-! de: iBatDev -/
abbrev M_de : List Vm.Mode := [.imm S_BatBatch, .imm I, .imm .bool]
abbrev R_de : List (RK × Sh) := [(.own, S_BatBatch), (.imm, .bool)]
abbrev In_de : Type := (insSh M_de).den
abbrev Out_de : Type := (outSh R_de M_de).den
abbrev C_de (pre : In_de -> Bool) (fn : In_de -> Out_de) : Prop := Sound Tryz.prog 36 ⟨M_de, R_de, pre, fn⟩
section
variable (g_dd : In_dd -> Out_dd) (p_dd : In_dd -> Bool)
abbrev X_de : Ctx := ctx tys 13 (conOf [(83, ⟨M_dd, R_dd, p_dd, g_dd⟩)]) (keepOf []) (fun _ => [])
noncomputable abbrev E_de (k : Nat) (x : In_de) : Option Out_de := evFn (X_de g_dd p_dd) Tryz.f36 R_de M_de k x
variable {g_dd p_dd}
theorem ev_de (k : Nat) (x0 : Dm (.imm S_BatBatch)) (x1 : Dm (.imm I)) (x2 : Dm (.imm .bool)) : E_de g_dd p_dd k (x0, x1, x2, ()) =
  (cl (p_dd (x0, ((x2, (x1, ())), ()))) (g_dd (x0, ((x2, (x1, ())), ()))) fun y0 => (some (y0.1, (y0.2.1, ())))) := by kernel_rfl
theorem S_de (h_dd : C_dd p_dd g_dd) {pre : In_de -> Bool} {fn : In_de -> Out_de} (hev : ∀ x, pre x = true -> ∃ k, E_de g_dd p_dd k x = some (fn x)) : C_de pre fn := sound tysOk mixed (fn := Tryz.f36) rfl rfl rfl (.cons h_dd .nil) _ hev
end
/-! df: lcuDecs -/
abbrev M_df : List Vm.Mode := [.imm L_DecDec, .imm L_DecDec]
abbrev R_df : List (RK × Sh) := [(.imm, .bool)]
abbrev In_df : Type := (insSh M_df).den
abbrev Out_df : Type := (outSh R_df M_df).den
abbrev C_df (pre : In_df -> Bool) (fn : In_df -> Out_df) : Prop := Sound Tryz.prog 99 ⟨M_df, R_df, pre, fn⟩
abbrev X_df : Ctx := ctx tys 26 (conOf []) (keepOf [(pt0, (⟨[(0, .asis), (1, .asis), (5, .asis)], [], []⟩ : Keep))]) (fun _ => [])
noncomputable abbrev E_df (k : Nat) (x : In_df) : Option Out_df := evFn X_df Tryz.f99 R_df M_df k x
def h0_df (x0 : Dm (.imm L_DecDec)) (x1 : Dm (.imm L_DecDec)) (h0 : Dn I) : St := mkS [(0, (AV.val L_DecDec x0)), (1, (AV.val L_DecDec x1)), (5, (AV.val I h0))] []
noncomputable def r_df (x : In_df) (k : Nat) (p : List Bool) (s : St) : Option Out_df := rounds X_df Tryz.f99 R_df M_df x k p s
theorem ev_df (k : Nat) (x0 : Dm (.imm L_DecDec)) (x1 : Dm (.imm L_DecDec)) : E_df k (x0, x1, ()) =
  (bif (bif (decide ((List.length x0 : Int) = (List.length x1 : Int))) then false else true) then (some (false, ())) else (r_df  (x0, x1, ()) k pt0 (h0_df x0 x1 (0 : Int)))) := by kernel_rfl
theorem rd0_df (k : Nat) (x0 : Dm (.imm L_DecDec)) (x1 : Dm (.imm L_DecDec)) (h0 : Dn I) : r_df  (x0, x1, ()) (k + 1) pt0 (h0_df x0 x1 h0) =
  (bif (decide (h0 < (List.length x0 : Int))) then (bif (bif (decide ((0 : Int) <= h0)) then (decide (h0 < (List.length x0 : Int))) else false) then (bif (bif (decide ((0 : Int) <= h0)) then (decide (h0 < (List.length x1 : Int))) else false) then (bif (bif (Sh.beq S_DecDec (rdL (e := S_DecDec) x0 h0) (rdL (e := S_DecDec) x1 h0)) then false else true) then (some (false, ())) else (r_df  (x0, x1, ()) k pt0 (h0_df x0 x1 (w64 (h0 + (1 : Int)))))) else none) else none) else (some (true, ()))) := by kernel_rfl
theorem S_df  {pre : In_df -> Bool} {fn : In_df -> Out_df} (hev : ∀ x, pre x = true -> ∃ k, E_df k x = some (fn x)) : C_df pre fn := sound tysOk mixed (fn := Tryz.f99) rfl rfl rfl ConsOk.nil _ hev
/-! dg: lcuTest -/
abbrev M_dg : List Vm.Mode := [.imm S_TstTest, .imm S_TstTest]
abbrev R_dg : List (RK × Sh) := [(.imm, .bool)]
abbrev In_dg : Type := (insSh M_dg).den
abbrev Out_dg : Type := (outSh R_dg M_dg).den
abbrev C_dg (pre : In_dg -> Bool) (fn : In_dg -> Out_dg) : Prop := Sound Tryz.prog 41 ⟨M_dg, R_dg, pre, fn⟩
section
variable (g_df : In_df -> Out_df) (p_df : In_df -> Bool)
abbrev X_dg : Ctx := ctx tys 38 (conOf [(99, ⟨M_df, R_df, p_df, g_df⟩)]) (keepOf []) (fun _ => [])
noncomputable abbrev E_dg (k : Nat) (x : In_dg) : Option Out_dg := evFn (X_dg g_df p_df) Tryz.f41 R_dg M_dg k x
variable {g_df p_df}
theorem ev_dg (k : Nat) (x0 : Dm (.imm S_TstTest)) (x1 : Dm (.imm S_TstTest)) : E_dg g_df p_df k (x0, x1, ()) =
  (bif (Sh.beq S_SpcTest x0.1 x1.1) then (bif (decide (x0.2.1 = x1.2.1)) then (bif (Sh.beq S_DecDec x0.2.2.1 x1.2.2.1) then (bif (decide (x0.2.2.2.1 = x1.2.2.2.1)) then (bif (p_df (x0.2.2.2.2, (x1.2.2.2.2, ()))) then (some ((g_df (x0.2.2.2.2, (x1.2.2.2.2, ()))).1, ())) else none) else (some (false, ()))) else (some (false, ()))) else (some (false, ()))) else (some (false, ()))) := by kernel_rfl
theorem S_dg (h_df : C_df p_df g_df) {pre : In_dg -> Bool} {fn : In_dg -> Out_dg} (hev : ∀ x, pre x = true -> ∃ k, E_dg g_df p_df k x = some (fn x)) : C_dg pre fn := sound tysOk mixed (fn := Tryz.f41) rfl rfl rfl (.cons h_df .nil) _ hev
end
/-! dh: lcuBatch -/
abbrev M_dh : List Vm.Mode := [.imm S_BatBatch, .imm S_BatBatch]
abbrev R_dh : List (RK × Sh) := [(.imm, .bool)]
abbrev In_dh : Type := (insSh M_dh).den
abbrev Out_dh : Type := (outSh R_dh M_dh).den
abbrev C_dh (pre : In_dh -> Bool) (fn : In_dh -> Out_dh) : Prop := Sound Tryz.prog 21 ⟨M_dh, R_dh, pre, fn⟩
section
variable (g_dg : In_dg -> Out_dg) (p_dg : In_dg -> Bool)
abbrev X_dh : Ctx := ctx tys 109 (conOf [(41, ⟨M_dg, R_dg, p_dg, g_dg⟩)]) (keepOf [(pt8, (⟨[(2, .asis), (3, .asis), (7, .asis)], [(2, .asis), (3, .asis)], []⟩ : Keep)), (pt2, (⟨[(2, .asis), (3, .asis), (6, .asis)], [(2, .asis), (3, .asis)], []⟩ : Keep)), (pt0, (⟨[(2, .asis), (3, .asis), (5, .asis)], [(2, .asis), (3, .asis)], []⟩ : Keep))]) (fun _ => [])
noncomputable abbrev E_dh (k : Nat) (x : In_dh) : Option Out_dh := evFn (X_dh g_dg p_dg) Tryz.f21 R_dh M_dh k x
def h0_dh (x0 : Dm (.imm S_BatBatch)) (x1 : Dm (.imm S_BatBatch)) (h0 : Dn I) : St := mkS [(2, (AV.ptr 2 none [])), (3, (AV.ptr 3 none [])), (5, (AV.val I h0))] [(2, (Ob.box S_BatBatch (AV.val S_BatBatch x0))), (3, (Ob.box S_BatBatch (AV.val S_BatBatch x1)))]
def h1_dh (x0 : Dm (.imm S_BatBatch)) (x1 : Dm (.imm S_BatBatch)) (h0 : Dn I) : St := mkS [(2, (AV.ptr 2 none [])), (3, (AV.ptr 3 none [])), (6, (AV.val I h0))] [(2, (Ob.box S_BatBatch (AV.val S_BatBatch x0))), (3, (Ob.box S_BatBatch (AV.val S_BatBatch x1)))]
def h2_dh (x0 : Dm (.imm S_BatBatch)) (x1 : Dm (.imm S_BatBatch)) (h0 : Dn I) : St := mkS [(2, (AV.ptr 2 none [])), (3, (AV.ptr 3 none [])), (7, (AV.val I h0))] [(2, (Ob.box S_BatBatch (AV.val S_BatBatch x0))), (3, (Ob.box S_BatBatch (AV.val S_BatBatch x1)))]
noncomputable def r_dh (x : In_dh) (k : Nat) (p : List Bool) (s : St) : Option Out_dh := rounds (X_dh g_dg p_dg) Tryz.f21 R_dh M_dh x k p s
variable {g_dg p_dg}
theorem ev_dh (k : Nat) (x0 : Dm (.imm S_BatBatch)) (x1 : Dm (.imm S_BatBatch)) : E_dh g_dg p_dg k (x0, x1, ()) =
  (bif (bif (decide (x0.1 = x1.1)) then false else true) then (some (false, ())) else (bif (bif (decide (x0.2.1 = x1.2.1)) then false else true) then (some (false, ())) else (bif (bif (decide (x0.2.2.2.1 = x1.2.2.2.1)) then false else true) then (some (false, ())) else (bif (bif (decide ((List.length x0.2.2.1 : Int) = (List.length x1.2.2.1 : Int))) then false else true) then (some (false, ())) else (bif (bif (decide ((List.length x0.2.2.2.2.1 : Int) = (List.length x1.2.2.2.2.1 : Int))) then false else true) then (some (false, ())) else (bif (bif (decide ((List.length x0.2.2.2.2.2 : Int) = (List.length x1.2.2.2.2.2 : Int))) then false else true) then (some (false, ())) else (r_dh g_dg p_dg (x0, x1, ()) k pt0 (h0_dh x0 x1 (0 : Int))))))))) := by kernel_rfl
theorem rd0_dh (k : Nat) (x0 : Dm (.imm S_BatBatch)) (x1 : Dm (.imm S_BatBatch)) (h0 : Dn I) : r_dh g_dg p_dg (x0, x1, ()) (k + 1) pt0 (h0_dh x0 x1 h0) =
  (bif (decide (h0 < (List.length x0.2.2.1 : Int))) then (bif (bif (decide ((0 : Int) <= h0)) then (decide (h0 < (List.length x0.2.2.1 : Int))) else false) then (bif (bif (decide ((0 : Int) <= h0)) then (decide (h0 < (List.length x1.2.2.1 : Int))) else false) then (cl (p_dg ((rdL (e := S_TstTest) x0.2.2.1 h0), ((rdL (e := S_TstTest) x1.2.2.1 h0), ()))) (g_dg ((rdL (e := S_TstTest) x0.2.2.1 h0), ((rdL (e := S_TstTest) x1.2.2.1 h0), ()))) fun y0 => (bif (bif y0.1 then false else true) then (some (false, ())) else (r_dh g_dg p_dg (x0, x1, ()) k pt0 (h0_dh x0 x1 (w64 (h0 + (1 : Int))))))) else none) else none) else (r_dh g_dg p_dg (x0, x1, ()) k pt2 (h1_dh x0 x1 (0 : Int)))) := by kernel_rfl
theorem rd1_dh (k : Nat) (x0 : Dm (.imm S_BatBatch)) (x1 : Dm (.imm S_BatBatch)) (h0 : Dn I) : r_dh g_dg p_dg (x0, x1, ()) (k + 1) pt2 (h1_dh x0 x1 h0) =
  (bif (decide (h0 < (List.length x0.2.2.2.2.1 : Int))) then (bif (bif (decide ((0 : Int) <= h0)) then (decide (h0 < (List.length x0.2.2.2.2.1 : Int))) else false) then (bif (bif (decide ((0 : Int) <= h0)) then (decide (h0 < (List.length x1.2.2.2.2.1 : Int))) else false) then (bif (bif (Sh.beq S_BatSig (rdL (e := S_BatSig) x0.2.2.2.2.1 h0) (rdL (e := S_BatSig) x1.2.2.2.2.1 h0)) then false else true) then (some (false, ())) else (r_dh g_dg p_dg (x0, x1, ()) k pt2 (h1_dh x0 x1 (w64 (h0 + (1 : Int)))))) else none) else none) else (r_dh g_dg p_dg (x0, x1, ()) k pt8 (h2_dh x0 x1 (0 : Int)))) := by kernel_rfl
theorem rd2_dh (k : Nat) (x0 : Dm (.imm S_BatBatch)) (x1 : Dm (.imm S_BatBatch)) (h0 : Dn I) : r_dh g_dg p_dg (x0, x1, ()) (k + 1) pt8 (h2_dh x0 x1 h0) =
  (bif (decide (h0 < (List.length x0.2.2.2.2.2 : Int))) then (bif (bif (decide ((0 : Int) <= h0)) then (decide (h0 < (List.length x0.2.2.2.2.2 : Int))) else false) then (bif (bif (decide ((0 : Int) <= h0)) then (decide (h0 < (List.length x1.2.2.2.2.2 : Int))) else false) then (bif (bif ((rdL (e := Sh.bool) x0.2.2.2.2.2 h0) == (rdL (e := Sh.bool) x1.2.2.2.2.2 h0)) then false else true) then (some (false, ())) else (r_dh g_dg p_dg (x0, x1, ()) k pt8 (h2_dh x0 x1 (w64 (h0 + (1 : Int)))))) else none) else none) else (some (true, ()))) := by kernel_rfl
theorem S_dh (h_dg : C_dg p_dg g_dg) {pre : In_dh -> Bool} {fn : In_dh -> Out_dh} (hev : ∀ x, pre x = true -> ∃ k, E_dh g_dg p_dg k x = some (fn x)) : C_dh pre fn := sound tysOk mixed (fn := Tryz.f21) rfl rfl rfl (.cons h_dg .nil) _ hev
end
/-! di: iDayLeap -/
abbrev M_di : List Vm.Mode := [.imm I]
abbrev R_di : List (RK × Sh) := [(.imm, .bool)]
abbrev In_di : Type := (insSh M_di).den
abbrev Out_di : Type := (outSh R_di M_di).den
abbrev C_di (pre : In_di -> Bool) (fn : In_di -> Out_di) : Prop := Sound Tryz.prog 185 ⟨M_di, R_di, pre, fn⟩
abbrev X_di : Ctx := ctx tys 16 (conOf []) (keepOf []) (fun _ => [])
noncomputable abbrev E_di (k : Nat) (x : In_di) : Option Out_di := evFn X_di Tryz.f185 R_di M_di k x
theorem ev_di (k : Nat) (x0 : Dm (.imm I)) : E_di k (x0, ()) =
  (bif (bif (decide ((4 : Int) = (0 : Int))) then false else true) then (bif (decide ((Int.tmod x0 (4 : Int)) = (0 : Int))) then (bif (bif (decide ((100 : Int) = (0 : Int))) then false else true) then (bif (bif (decide ((Int.tmod x0 (100 : Int)) = (0 : Int))) then false else true) then (some (true, ())) else (bif (bif (decide ((400 : Int) = (0 : Int))) then false else true) then (some ((decide ((Int.tmod x0 (400 : Int)) = (0 : Int))), ())) else none)) else none) else (some (false, ()))) else none) := by kernel_rfl
theorem S_di  {pre : In_di -> Bool} {fn : In_di -> Out_di} (hev : ∀ x, pre x = true -> ∃ k, E_di k x = some (fn x)) : C_di pre fn := sound tysOk mixed (fn := Tryz.f185) rfl rfl rfl ConsOk.nil _ hev
/-! dj: iDayLast -/
abbrev M_dj : List Vm.Mode := [.imm I, .imm I]
abbrev R_dj : List (RK × Sh) := [(.imm, I)]
abbrev In_dj : Type := (insSh M_dj).den
abbrev Out_dj : Type := (outSh R_dj M_dj).den
abbrev C_dj (pre : In_dj -> Bool) (fn : In_dj -> Out_dj) : Prop := Sound Tryz.prog 137 ⟨M_dj, R_dj, pre, fn⟩
section
variable (g_iin : In_iin -> Out_iin) (g_di : In_di -> Out_di)
abbrev X_dj : Ctx := ctx tys 20 (conOf [(65, ⟨M_iin, R_iin, fun _ => true, g_iin⟩), (185, ⟨M_di, R_di, fun _ => true, g_di⟩)]) (keepOf []) (fun _ => [])
noncomputable abbrev E_dj (k : Nat) (x : In_dj) : Option Out_dj := evFn (X_dj g_iin g_di) Tryz.f137 R_dj M_dj k x
variable {g_iin g_di}
theorem ev_dj (k : Nat) (x0 : Dm (.imm I)) (x1 : Dm (.imm I)) : E_dj g_iin g_di k (x0, x1, ()) =
  (bif (bif (g_iin (x1, ((1 : Int), ((12 : Int), ())))).1 then false else true) then (some ((0 : Int), ())) else (bif (decide (x1 = (2 : Int))) then (bif (g_di (x0, ())).1 then (some ((29 : Int), ())) else none) else none)) := by kernel_rfl
theorem S_dj (h_iin : C_iin (fun _ => true) g_iin) (h_di : C_di (fun _ => true) g_di) {pre : In_dj -> Bool} {fn : In_dj -> Out_dj} (hev : ∀ x, pre x = true -> ∃ k, E_dj g_iin g_di k x = some (fn x)) : C_dj pre fn := sound tysOk mixed (fn := Tryz.f137) rfl rfl rfl (.cons h_iin (.cons h_di .nil)) _ hev
end
/-! dk: iDayOk -/
abbrev M_dk : List Vm.Mode := [.imm S_BatSig]
abbrev R_dk : List (RK × Sh) := [(.imm, .bool)]
abbrev In_dk : Type := (insSh M_dk).den
abbrev Out_dk : Type := (outSh R_dk M_dk).den
abbrev C_dk (pre : In_dk -> Bool) (fn : In_dk -> Out_dk) : Prop := Sound Tryz.prog 64 ⟨M_dk, R_dk, pre, fn⟩
section
variable (g_iin : In_iin -> Out_iin) (g_dj : In_dj -> Out_dj) (p_dj : In_dj -> Bool)
abbrev X_dk : Ctx := ctx tys 16 (conOf [(65, ⟨M_iin, R_iin, fun _ => true, g_iin⟩), (137, ⟨M_dj, R_dj, p_dj, g_dj⟩)]) (keepOf []) (fun _ => [])
noncomputable abbrev E_dk (k : Nat) (x : In_dk) : Option Out_dk := evFn (X_dk g_iin g_dj p_dj) Tryz.f64 R_dk M_dk k x
variable {g_iin g_dj p_dj}
theorem ev_dk (k : Nat) (x0 : Dm (.imm S_BatSig)) : E_dk g_iin g_dj p_dj k (x0, ()) =
  (bif (g_iin (x0.1, ((1900 : Int), ((2199 : Int), ())))).1 then (bif (p_dj (x0.1, (x0.2.1, ()))) then (some ((g_iin (x0.2.2, ((1 : Int), ((g_dj (x0.1, (x0.2.1, ()))).1, ())))).1, ())) else none) else (some (false, ()))) := by kernel_rfl
theorem S_dk (h_iin : C_iin (fun _ => true) g_iin) (h_dj : C_dj p_dj g_dj) {pre : In_dk -> Bool} {fn : In_dk -> Out_dk} (hev : ∀ x, pre x = true -> ∃ k, E_dk g_iin g_dj p_dj k x = some (fn x)) : C_dk pre fn := sound tysOk mixed (fn := Tryz.f64) rfl rfl rfl (.cons h_iin (.cons h_dj .nil)) _ hev
end
/-! dl: lcuOk -/
abbrev M_dl : List Vm.Mode := []
abbrev R_dl : List (RK × Sh) := [(.imm, .bool)]
abbrev In_dl : Type := (insSh M_dl).den
abbrev Out_dl : Type := (outSh R_dl M_dl).den
abbrev C_dl (pre : In_dl -> Bool) (fn : In_dl -> Out_dl) : Prop := Sound Tryz.prog 19 ⟨M_dl, R_dl, pre, fn⟩
section
variable (g_dk : In_dk -> Out_dk) (p_dk : In_dk -> Bool)
abbrev X_dl : Ctx := ctx tys 3 (conOf [(64, ⟨M_dk, R_dk, p_dk, g_dk⟩)]) (keepOf []) (fun _ => [])
noncomputable abbrev E_dl (k : Nat) (x : In_dl) : Option Out_dl := evFn (X_dl g_dk p_dk) Tryz.f19 R_dl M_dl k x
variable {g_dk p_dk}
theorem ev_dl (k : Nat)  : E_dl g_dk p_dk k (()) =
  (bif (p_dk (((2000 : Int), ((2 : Int), (29 : Int))), ())) then (some ((g_dk (((2000 : Int), ((2 : Int), (29 : Int))), ())).1, ())) else none) := by kernel_rfl
theorem S_dl (h_dk : C_dk p_dk g_dk) {pre : In_dl -> Bool} {fn : In_dl -> Out_dl} (hev : ∀ x, pre x = true -> ∃ k, E_dl g_dk p_dk k x = some (fn x)) : C_dl pre fn := sound tysOk mixed (fn := Tryz.f19) rfl rfl rfl (.cons h_dk .nil) _ hev
end
/-! dm: iBatGate -/
abbrev M_dm : List Vm.Mode := [.imm S_BatBatch]
abbrev R_dm : List (RK × Sh) := [(.imm, .bool)]
abbrev In_dm : Type := (insSh M_dm).den
abbrev Out_dm : Type := (outSh R_dm M_dm).den
abbrev C_dm (pre : In_dm -> Bool) (fn : In_dm -> Out_dm) : Prop := Sound Tryz.prog 26 ⟨M_dm, R_dm, pre, fn⟩
section
variable (g_db : In_db -> Out_db) (p_db : In_db -> Bool) (g_da : In_da -> Out_da) (p_da : In_da -> Bool)
abbrev X_dm : Ctx := ctx tys 9 (conOf [(34, ⟨M_db, R_db, p_db, g_db⟩), (79, ⟨M_da, R_da, p_da, g_da⟩)]) (keepOf []) (fun _ => [])
noncomputable abbrev E_dm (k : Nat) (x : In_dm) : Option Out_dm := evFn (X_dm g_db p_db g_da p_da) Tryz.f26 R_dm M_dm k x
variable {g_db p_db g_da p_da}
theorem ev_dm (k : Nat) (x0 : Dm (.imm S_BatBatch)) : E_dm g_db p_db g_da p_da k (x0, ()) =
  (cl (p_db (x0, ())) (g_db (x0, ())) fun y0 => (bif y0.1 then (cl (p_da (x0, ())) (g_da (x0, ())) fun y1 => (some (y1.1, ()))) else (some (false, ())))) := by kernel_rfl
theorem S_dm (h_db : C_db p_db g_db) (h_da : C_da p_da g_da) {pre : In_dm -> Bool} {fn : In_dm -> Out_dm} (hev : ∀ x, pre x = true -> ∃ k, E_dm g_db p_db g_da p_da k x = some (fn x)) : C_dm pre fn := sound tysOk mixed (fn := Tryz.f26) rfl rfl rfl (.cons h_db (.cons h_da .nil)) _ hev
end
/-! lFnBatDev -/
abbrev M_lFnBatDev : List Vm.Mode := [.imm L_u8]
abbrev R_lFnBatDev : List (RK × Sh) := [(.own, .bool)]
abbrev In_lFnBatDev : Type := (insSh M_lFnBatDev).den
abbrev Out_lFnBatDev : Type := (outSh R_lFnBatDev M_lFnBatDev).den
abbrev C_lFnBatDev (pre : In_lFnBatDev -> Bool) (fn : In_lFnBatDev -> Out_lFnBatDev) : Prop := Sound Tryz.prog 7 ⟨M_lFnBatDev, R_lFnBatDev, pre, fn⟩
section
variable (g_c1 : In_c1 -> Out_c1) (p_c1 : In_c1 -> Bool) (g_de : In_de -> Out_de) (p_de : In_de -> Bool) (g_bh : In_bh -> Out_bh) (p_bh : In_bh -> Bool) (g_dh : In_dh -> Out_dh) (p_dh : In_dh -> Bool) (g_dl : In_dl -> Out_dl) (g_dm : In_dm -> Out_dm) (p_dm : In_dm -> Bool) (g_db : In_db -> Out_db) (p_db : In_db -> Bool)
abbrev X_lFnBatDev : Ctx := ctx tys 147 (conOf [(35, ⟨M_c1, R_c1, p_c1, g_c1⟩), (36, ⟨M_de, R_de, p_de, g_de⟩), (37, ⟨M_bh, R_bh, p_bh, g_bh⟩), (21, ⟨M_dh, R_dh, p_dh, g_dh⟩), (19, ⟨M_dl, R_dl, fun _ => true, g_dl⟩), (26, ⟨M_dm, R_dm, p_dm, g_dm⟩), (34, ⟨M_db, R_db, p_db, g_db⟩)]) (keepOf []) (fun _ => [])
noncomputable abbrev E_lFnBatDev (k : Nat) (x : In_lFnBatDev) : Option Out_lFnBatDev := evFn (X_lFnBatDev g_c1 p_c1 g_de p_de g_bh p_bh g_dh p_dh g_dl g_dm p_dm g_db p_db) Tryz.f7 R_lFnBatDev M_lFnBatDev k x
variable {g_c1 p_c1 g_de p_de g_bh p_bh g_dh p_dh g_dl g_dm p_dm g_db p_db}
theorem ev_lFnBatDev (k : Nat) (x0 : Dm (.imm L_u8)) : E_lFnBatDev g_c1 p_c1 g_de p_de g_bh p_bh g_dh p_dh g_dl g_dm p_dm g_db p_db k (x0, ()) =
  (bif (decide ((1048576 : Int) < (List.length x0 : Int))) then (some (true, ())) else (cl (p_c1 (x0, ())) (g_c1 (x0, ())) fun y0 => (cl (p_de (y0.1, (y0.2.1, (y0.2.2.1, ())))) (g_de (y0.1, (y0.2.1, (y0.2.2.1, ())))) fun y1 => (cl (p_bh (y0.1, (y0.2.1, (y0.2.2.1, ())))) (g_bh (y0.1, (y0.2.1, (y0.2.2.1, ())))) fun y2 => (cl (p_dh (y1.1, (y2.1, ()))) (g_dh (y1.1, (y2.1, ()))) fun y3 => (bif (bif y3.1 then false else true) then (some (false, ())) else (bif (bif (y1.2.1 == y2.2.1) then false else true) then (some (false, ())) else (bif (bif y1.2.1 then false else true) then (cl (p_dh (y1.1, (y0.1, ()))) (g_dh (y1.1, (y0.1, ()))) fun y4 => (bif y4.1 then (some ((g_dl ()).1, ())) else (some (false, ())))) else (bif y0.2.2.1 then (cl (p_de (y1.1, ((List.length y0.1.2.2.2.2.2 : Int), (false, ())))) (g_de (y1.1, ((List.length y0.1.2.2.2.2.2 : Int), (false, ())))) fun y5 => (cl (p_de (y5.1, ((List.length y0.1.2.2.2.2.2 : Int), (false, ())))) (g_de (y5.1, ((List.length y0.1.2.2.2.2.2 : Int), (false, ())))) fun y6 => (bif (decide ((List.length y1.1.2.2.2.2.2 : Int) = (w64 ((List.length y0.1.2.2.2.2.2 : Int) + (1 : Int))))) then (bif (bif (decide ((0 : Int) <= (List.length y0.1.2.2.2.2.2 : Int))) then (decide ((List.length y0.1.2.2.2.2.2 : Int) < (List.length y1.1.2.2.2.2.2 : Int))) else false) then (bif (rdL (e := Sh.bool) y1.1.2.2.2.2.2 (List.length y0.1.2.2.2.2.2 : Int)) then (cl (p_dm (y1.1, ())) (g_dm (y1.1, ())) fun y7 => (bif (bif y7.1 then false else true) then (cl (p_dh ((y1.1.1, (y1.1.2.1, (y1.1.2.2.1, (y1.1.2.2.2.1, (y1.1.2.2.2.2.1, y0.1.2.2.2.2.2))))), (y0.1, ()))) (g_dh ((y1.1.1, (y1.1.2.1, (y1.1.2.2.1, (y1.1.2.2.2.1, (y1.1.2.2.2.2.1, y0.1.2.2.2.2.2))))), (y0.1, ()))) fun y8 => (bif y8.1 then (bif y5.2.1 then (bif (bif (decide ((0 : Int) <= (List.length y0.1.2.2.2.2.2 : Int))) then (decide ((List.length y0.1.2.2.2.2.2 : Int) < (List.length y5.1.2.2.2.2.2 : Int))) else false) then (bif (bif (rdL (e := Sh.bool) y5.1.2.2.2.2.2 (List.length y0.1.2.2.2.2.2 : Int)) then false else true) then (bif (bif y6.2.1 then false else true) then (cl (p_db (y1.1, ())) (g_db (y1.1, ())) fun y9 => (some (y9.1, ()))) else (some (false, ()))) else (some (false, ()))) else none) else (some (false, ()))) else (some (false, ())))) else (some (false, ())))) else (some (false, ()))) else none) else (some (false, ()))))) else (bif (decide ((List.length y1.1.2.2.2.2.2 : Int) = (List.length y0.1.2.2.2.2.2 : Int))) then (bif (bif (decide ((0 : Int) <= y0.2.1)) then (decide (y0.2.1 < (List.length y0.1.2.2.2.2.2 : Int))) else false) then (bif (rdL (e := Sh.bool) y0.1.2.2.2.2.2 y0.2.1) then (bif (bif (decide ((0 : Int) <= y0.2.1)) then (decide (y0.2.1 < (List.length y1.1.2.2.2.2.2 : Int))) else false) then (bif (bif (rdL (e := Sh.bool) y1.1.2.2.2.2.2 y0.2.1) then false else true) then (cl (p_dh ((y1.1.1, (y1.1.2.1, (y1.1.2.2.1, (y1.1.2.2.2.1, (y1.1.2.2.2.2.1, y0.1.2.2.2.2.2))))), (y0.1, ()))) (g_dh ((y1.1.1, (y1.1.2.1, (y1.1.2.2.1, (y1.1.2.2.2.1, (y1.1.2.2.2.2.1, y0.1.2.2.2.2.2))))), (y0.1, ()))) fun y10 => (bif y10.1 then (cl (p_db (y1.1, ())) (g_db (y1.1, ())) fun y11 => (some (y11.1, ()))) else (some (false, ())))) else (some (false, ()))) else none) else (some (false, ()))) else none) else (some (false, ())))))))))))) := by kernel_rfl
theorem S_lFnBatDev (h_c1 : C_c1 p_c1 g_c1) (h_de : C_de p_de g_de) (h_bh : C_bh p_bh g_bh) (h_dh : C_dh p_dh g_dh) (h_dl : C_dl (fun _ => true) g_dl) (h_dm : C_dm p_dm g_dm) (h_db : C_db p_db g_db) {pre : In_lFnBatDev -> Bool} {fn : In_lFnBatDev -> Out_lFnBatDev} (hev : ∀ x, pre x = true -> ∃ k, E_lFnBatDev g_c1 p_c1 g_de p_de g_bh p_bh g_dh p_dh g_dl g_dm p_dm g_db p_db k x = some (fn x)) : C_lFnBatDev pre fn := sound tysOk mixed (fn := Tryz.f7) rfl rfl rfl (.cons h_c1 (.cons h_de (.cons h_bh (.cons h_dh (.cons h_dl (.cons h_dm (.cons h_db .nil))))))) _ hev
end
end Go.Proofs.YtddpemilmeijfaaGreat
