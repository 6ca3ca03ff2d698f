/- The functions of the seat, evaluated: equations, checked by the kernel. Made by a program. -/
import Derived.Test.YtjmohfahchamaaaGreatFnExactHouDoEq0
set_option linter.unusedVariables false
set_option maxRecDepth 100000
namespace Go.Proofs.YtjmohfahchamaaaGreat
open Go.Vm
/-! dg: gContainsFunc_BatSig__iBatBatch_gate_c2 -/
abbrev M_dg : List Vm.Mode := [.imm L_BatSig, .clo 240 [I, S_BatBatch]]
abbrev R_dg : List (RK × Sh) := [(.imm, .bool)]
abbrev In_dg : Type := (insSh M_dg).den
abbrev Out_dg : Type := (outSh R_dg M_dg).den
abbrev C_dg (pre : In_dg -> Bool) (fn : In_dg -> Out_dg) : Prop := Sound Tryz.prog 142 ⟨M_dg, R_dg, pre, fn⟩
section
variable (g_df : In_df -> Out_df) (p_df : In_df -> Bool)
abbrev X_dg : Ctx := ctx tys 9 (conOf [(193, ⟨M_df, R_df, p_df, g_df⟩)]) (keepOf []) (fun _ => [])
noncomputable abbrev E_dg (k : Nat) (x : In_dg) : Option Out_dg := evFn (X_dg g_df p_df) Tryz.f142 R_dg M_dg k x
variable {g_df p_df}
theorem ev_dg (k : Nat) (x0 : Dm (.imm L_BatSig)) (x1 : Dm (.clo 240 [I, S_BatBatch])) : E_dg g_df p_df k (x0, x1, ()) =
  (cl (p_df (x0, ((x1.1, (x1.2.1, ())), ()))) (g_df (x0, ((x1.1, (x1.2.1, ())), ()))) fun y0 => (some ((decide ((0 : Int) <= y0.1)), ()))) := by kernel_rfl
theorem S_dg (h_df : C_df p_df g_df) {pre : In_dg -> Bool} {fn : In_dg -> Out_dg} (hev : ∀ x, pre x = true -> ∃ k, E_dg g_df p_df k x = some (fn x)) : C_dg pre fn := sound tysOk mixed (fn := Tryz.f142) rfl rfl rfl (.cons h_df .nil) _ hev
end
/-! dh: iBatBatch_gate -/
abbrev M_dh : List Vm.Mode := [.imm S_BatBatch]
abbrev R_dh : List (RK × Sh) := [(.imm, .bool)]
abbrev In_dh : Type := (insSh M_dh).den
abbrev Out_dh : Type := (outSh R_dh M_dh).den
abbrev C_dh (pre : In_dh -> Bool) (fn : In_dh -> Out_dh) : Prop := Sound Tryz.prog 192 ⟨M_dh, R_dh, pre, fn⟩
section
variable (g_d8 : In_d8 -> Out_d8) (p_d8 : In_d8 -> Bool) (g_da : In_da -> Out_da) (p_da : In_da -> Bool) (g_dc : In_dc -> Out_dc) (p_dc : In_dc -> Bool) (g_dg : In_dg -> Out_dg) (p_dg : In_dg -> Bool)
abbrev X_dh : Ctx := ctx tys 20 (conOf [(238, ⟨M_d8, R_d8, p_d8, g_d8⟩), (239, ⟨M_da, R_da, p_da, g_da⟩), (210, ⟨M_dc, R_dc, p_dc, g_dc⟩), (142, ⟨M_dg, R_dg, p_dg, g_dg⟩)]) (keepOf []) (fun _ => [])
noncomputable abbrev E_dh (k : Nat) (x : In_dh) : Option Out_dh := evFn (X_dh g_d8 p_d8 g_da p_da g_dc p_dc g_dg p_dg) Tryz.f192 R_dh M_dh k x
variable {g_d8 p_d8 g_da p_da g_dc p_dc g_dg p_dg}
theorem ev_dh (k : Nat) (x0 : Dm (.imm S_BatBatch)) : E_dh g_d8 p_d8 g_da p_da g_dc p_dc g_dg p_dg k (x0, ()) =
  (cl (p_d8 (x0.2.2.1, ((), ()))) (g_d8 (x0.2.2.1, ((), ()))) fun y0 => (bif y0.1 then (some (false, ())) else (cl (p_da (x0.2.2.2.2.2, (true, ()))) (g_da (x0.2.2.2.2.2, (true, ()))) fun y1 => (bif y1.1 then (some (false, ())) else (cl (p_dc (x0, ())) (g_dc (x0, ())) fun y2 => (cl (p_dg (x0.2.2.2.2.1, ((y2.1, (x0, ())), ()))) (g_dg (x0.2.2.2.2.1, ((y2.1, (x0, ())), ()))) fun y3 => (some (y3.1, ())))))))) := by kernel_rfl
theorem S_dh (h_d8 : C_d8 p_d8 g_d8) (h_da : C_da p_da g_da) (h_dc : C_dc p_dc g_dc) (h_dg : C_dg p_dg g_dg) {pre : In_dh -> Bool} {fn : In_dh -> Out_dh} (hev : ∀ x, pre x = true -> ∃ k, E_dh g_d8 p_d8 g_da p_da g_dc p_dc g_dg p_dg k x = some (fn x)) : C_dh pre fn := sound tysOk mixed (fn := Tryz.f192) rfl rfl rfl (.cons h_d8 (.cons h_da (.cons h_dc (.cons h_dg .nil)))) _ hev
end
/-! di: iBatOk -/
abbrev M_di : List Vm.Mode := [.imm S_BatBatch]
abbrev R_di : List (RK × Sh) := [(.imm, .bool)]
abbrev In_di : Type := (insSh M_di).den
abbrev Out_di : Type := (outSh R_di M_di).den
abbrev C_di (pre : In_di -> Bool) (fn : In_di -> Out_di) : Prop := Sound Tryz.prog 139 ⟨M_di, R_di, pre, fn⟩
section
variable (g_iin : In_iin -> Out_iin) (g_cz : In_cz -> Out_cz) (p_cz : In_cz -> Bool) (g_d5 : In_d5 -> Out_d5) (p_d5 : In_d5 -> Bool) (g_dh : In_dh -> Out_dh) (p_dh : In_dh -> Bool)
abbrev X_di : Ctx := ctx tys 87 (conOf [(41, ⟨M_iin, R_iin, fun _ => true, g_iin⟩), (189, ⟨M_cz, R_cz, p_cz, g_cz⟩), (142, ⟨M_d5, R_d5, p_d5, g_d5⟩), (192, ⟨M_dh, R_dh, p_dh, g_dh⟩)]) (keepOf [(pt0, (⟨[(1, .asis), (30, .asis), (31, .asis), (32, .asis)], [(1, .asis)], []⟩ : Keep))]) (fun _ => [])
noncomputable abbrev E_di (k : Nat) (x : In_di) : Option Out_di := evFn (X_di g_iin g_cz p_cz g_d5 p_d5 g_dh p_dh) Tryz.f139 R_di M_di k x
def h0_di (x0 : Dm (.imm S_BatBatch)) (h0 : Dn I) (h1 : Dn I) : St := mkS [(1, (AV.ptr 1 none [])), (30, (AV.val L_TstTest x0.2.2.1)), (31, (AV.val I h0)), (32, (AV.val I h1))] [(1, (Ob.box S_BatBatch (AV.val S_BatBatch x0)))]
noncomputable def r_di (x : In_di) (k : Nat) (p : List Bool) (s : St) : Option Out_di := rounds (X_di g_iin g_cz p_cz g_d5 p_d5 g_dh p_dh) Tryz.f139 R_di M_di x k p s
variable {g_iin g_cz p_cz g_d5 p_d5 g_dh p_dh}
theorem ev_di (k : Nat) (x0 : Dm (.imm S_BatBatch)) : E_di g_iin g_cz p_cz g_d5 p_d5 g_dh p_dh k (x0, ()) =
  (bif (bif (g_iin (x0.1, ((0 : Int), ((5 : Int), ())))).1 then false else true) then (some (false, ())) else (bif (bif (g_iin (x0.2.1, ((1 : Int), ((10000 : Int), ())))).1 then false else true) then (some (false, ())) else (bif (bif (g_iin ((List.length x0.2.2.1 : Int), ((1 : Int), ((4 : Int), ())))).1 then false else true) then (some (false, ())) else (bif (bif (g_iin (x0.2.2.2.1, ((1 : Int), ((4 : Int), ())))).1 then false else true) then (some (false, ())) else (r_di g_iin g_cz p_cz g_d5 p_d5 g_dh p_dh (x0, ()) k pt0 (h0_di x0 (List.length x0.2.2.1 : Int) (0 : Int))))))) := by kernel_rfl
theorem rd0_di (k : Nat) (x0 : Dm (.imm S_BatBatch)) (h0 : Dn I) (h1 : Dn I) : r_di g_iin g_cz p_cz g_d5 p_d5 g_dh p_dh (x0, ()) (k + 1) pt0 (h0_di x0 h0 h1) =
  (lt (rdL (e := S_TstTest) x0.2.2.1 h1) fun s1 => (lt (w64 (h1 - (1 : Int))) fun s0 => (bif (decide (h1 < h0)) then (bif (bif (decide ((0 : Int) <= h1)) then (decide (h1 < (List.length x0.2.2.1 : Int))) else false) then (cl (p_cz (s1, ())) (g_cz (s1, ())) fun y0 => (bif (bif y0.1 then false else true) then (some (false, ())) else (bif (decide ((0 : Int) < h1)) then (bif (bif (decide ((0 : Int) <= s0)) then (decide (s0 < (List.length x0.2.2.1 : Int))) else false) then (bif (decide (s1.1.1 <= (rdL (e := S_TstTest) x0.2.2.1 s0).1.1)) then (some (false, ())) else (r_di g_iin g_cz p_cz g_d5 p_d5 g_dh p_dh (x0, ()) k pt0 (h0_di x0 h0 (w64 (h1 + (1 : Int)))))) else none) else (r_di g_iin g_cz p_cz g_d5 p_d5 g_dh p_dh (x0, ()) k pt0 (h0_di x0 h0 (w64 (h1 + (1 : Int)))))))) else none) else (bif (decide ((6 : Int) < (List.length x0.2.2.2.2.1 : Int))) then (some (false, ())) else (cl (p_d5 (x0.2.2.2.2.1, ((), ()))) (g_d5 (x0.2.2.2.2.1, ((), ()))) fun y1 => (bif y1.1 then (some (false, ())) else (bif (decide ((3 : Int) < (List.length x0.2.2.2.2.2 : Int))) then (some (false, ())) else (bif (bif (decide (x0.2.2.2.1 = (2 : Int))) then false else true) then (bif (bif (decide (x0.2.2.2.1 = (4 : Int))) then false else true) then (some (true, ())) else (cl (p_dh (x0, ())) (g_dh (x0, ())) fun y2 => (some (y2.1, ())))) else (cl (p_dh (x0, ())) (g_dh (x0, ())) fun y3 => (some (y3.1, ()))))))))))) := by kernel_rfl
theorem S_di (h_iin : C_iin (fun _ => true) g_iin) (h_cz : C_cz p_cz g_cz) (h_d5 : C_d5 p_d5 g_d5) (h_dh : C_dh p_dh g_dh) {pre : In_di -> Bool} {fn : In_di -> Out_di} (hev : ∀ x, pre x = true -> ∃ k, E_di g_iin g_cz p_cz g_d5 p_d5 g_dh p_dh k x = some (fn x)) : C_di pre fn := sound tysOk mixed (fn := Tryz.f139) rfl rfl rfl (.cons h_iin (.cons h_cz (.cons h_d5 (.cons h_dh .nil)))) _ hev
end
/-! dj: gEqual_SpcTest -/
abbrev M_dj : List Vm.Mode := [.imm L_SpcTest, .imm L_SpcTest]
abbrev R_dj : List (RK × Sh) := [(.imm, .bool)]
abbrev In_dj : Type := (insSh M_dj).den
abbrev Out_dj : Type := (outSh R_dj M_dj).den
abbrev C_dj (pre : In_dj -> Bool) (fn : In_dj -> Out_dj) : Prop := Sound Tryz.prog 141 ⟨M_dj, R_dj, pre, fn⟩
abbrev X_dj : Ctx := ctx tys 26 (conOf []) (keepOf [(pt0, (⟨[(0, .asis), (1, .asis), (12, .asis), (13, .asis)], [], []⟩ : Keep))]) (fun _ => [])
noncomputable abbrev E_dj (k : Nat) (x : In_dj) : Option Out_dj := evFn X_dj Tryz.f141 R_dj M_dj k x
def h0_dj (x0 : Dm (.imm L_SpcTest)) (x1 : Dm (.imm L_SpcTest)) (h0 : Dn I) (h1 : Dn I) : St := mkS [(0, (AV.val L_SpcTest x0)), (1, (AV.val L_SpcTest x1)), (12, (AV.val I h0)), (13, (AV.val I h1))] []
noncomputable def r_dj (x : In_dj) (k : Nat) (p : List Bool) (s : St) : Option Out_dj := rounds X_dj Tryz.f141 R_dj M_dj x k p s
theorem ev_dj (k : Nat) (x0 : Dm (.imm L_SpcTest)) (x1 : Dm (.imm L_SpcTest)) : E_dj k (x0, x1, ()) =
  (bif (bif (decide ((List.length x0 : Int) = (List.length x1 : Int))) then false else true) then (some (false, ())) else (r_dj  (x0, x1, ()) k pt0 (h0_dj x0 x1 (List.length x0 : Int) (0 : Int)))) := by kernel_rfl
theorem rd0_dj (k : Nat) (x0 : Dm (.imm L_SpcTest)) (x1 : Dm (.imm L_SpcTest)) (h0 : Dn I) (h1 : Dn I) : r_dj  (x0, x1, ()) (k + 1) pt0 (h0_dj x0 x1 h0 h1) =
  (bif (decide (h1 < h0)) then (bif (bif (decide ((0 : Int) <= h1)) then (decide (h1 < (List.length x0 : Int))) else false) then (bif (bif (decide ((0 : Int) <= h1)) then (decide (h1 < (List.length x1 : Int))) else false) then (bif (bif (Sh.beq S_SpcTest (rdL (e := S_SpcTest) x0 h1) (rdL (e := S_SpcTest) x1 h1)) then false else true) then (some (false, ())) else (r_dj  (x0, x1, ()) k pt0 (h0_dj x0 x1 h0 (w64 (h1 + (1 : Int)))))) else none) else none) else (some (true, ()))) := by kernel_rfl
theorem S_dj  {pre : In_dj -> Bool} {fn : In_dj -> Out_dj} (hev : ∀ x, pre x = true -> ∃ k, E_dj k x = some (fn x)) : C_dj pre fn := sound tysOk mixed (fn := Tryz.f141) rfl rfl rfl ConsOk.nil _ hev
/-! dk: iHouHouse_batchOk_c1 -/
abbrev M_dk : List Vm.Mode := [.imm S_DayDay, .pR S_HouHouse]
abbrev R_dk : List (RK × Sh) := [(.imm, .bool)]
abbrev In_dk : Type := (insSh M_dk).den
abbrev Out_dk : Type := (outSh R_dk M_dk).den
abbrev C_dk (pre : In_dk -> Bool) (fn : In_dk -> Out_dk) : Prop := Sound Tryz.prog 140 ⟨M_dk, R_dk, pre, fn⟩
abbrev X_dk : Ctx := ctx tys 22 (conOf []) (keepOf []) (fun _ => [])
noncomputable abbrev E_dk (k : Nat) (x : In_dk) : Option Out_dk := evFn X_dk Tryz.f140 R_dk M_dk k x
theorem ev_dk (k : Nat) (x0 : Dm (.imm S_DayDay)) (x1 : Dm (.pR S_HouHouse)) : E_dk k (x0, x1, ()) =
  (bif (decide ((List.length x1.1 : Int) < x0.1)) then (some (true, ())) else (bif (bif (decide ((0 : Int) <= (w64 (x0.1 - (1 : Int))))) then (decide ((w64 (x0.1 - (1 : Int))) < (List.length x1.1 : Int))) else false) then (some ((bif (decide ((rdL (e := I) x1.1 (w64 (x0.1 - (1 : Int)))) = x0.2.1)) then false else true), ())) else none)) := by kernel_rfl
theorem S_dk  {pre : In_dk -> Bool} {fn : In_dk -> Out_dk} (hev : ∀ x, pre x = true -> ∃ k, E_dk k x = some (fn x)) : C_dk pre fn := sound tysOk mixed (fn := Tryz.f140) rfl rfl rfl ConsOk.nil _ hev
/-! dl: gIndexFunc_BatSig__iHouHouse_batchOk_c1 -/
abbrev M_dl : List Vm.Mode := [.imm L_BatSig, .clo 140 [S_HouHouse]]
abbrev R_dl : List (RK × Sh) := [(.imm, I)]
abbrev In_dl : Type := (insSh M_dl).den
abbrev Out_dl : Type := (outSh R_dl M_dl).den
abbrev C_dl (pre : In_dl -> Bool) (fn : In_dl -> Out_dl) : Prop := Sound Tryz.prog 193 ⟨M_dl, R_dl, pre, fn⟩
section
variable (g_dk : In_dk -> Out_dk) (p_dk : In_dk -> Bool)
abbrev X_dl : Ctx := ctx tys 19 (conOf [(140, ⟨M_dk, R_dk, p_dk, g_dk⟩)]) (keepOf [(pt1, (⟨[(0, .asis), (1, .asis), (7, .asis), (8, .asis)], [(1000005000, .asis)], []⟩ : Keep))]) (fun _ => [])
noncomputable abbrev E_dl (k : Nat) (x : In_dl) : Option Out_dl := evFn (X_dl g_dk p_dk) Tryz.f193 R_dl M_dl k x
def h0_dl (x0 : Dm (.imm L_BatSig)) (x1 : Dm (.clo 140 [S_HouHouse])) (h0 : Dn I) (h1 : Dn I) : St := mkS [(0, (AV.val L_BatSig x0)), (1, (AV.fn 140 [1000005000])), (7, (AV.val I h0)), (8, (AV.val I h1))] [(1000005000, (Ob.cbox S_HouHouse x1.1))]
noncomputable def r_dl (x : In_dl) (k : Nat) (p : List Bool) (s : St) : Option Out_dl := rounds (X_dl g_dk p_dk) Tryz.f193 R_dl M_dl x k p s
variable {g_dk p_dk}
theorem ev_dl (k : Nat) (x0 : Dm (.imm L_BatSig)) (x1 : Dm (.clo 140 [S_HouHouse])) : E_dl g_dk p_dk k (x0, x1, ()) =
  (r_dl g_dk p_dk (x0, x1, ()) k pt1 (h0_dl x0 x1 (List.length x0 : Int) (0 : Int))) := by kernel_rfl
theorem rd0_dl (k : Nat) (x0 : Dm (.imm L_BatSig)) (x1 : Dm (.clo 140 [S_HouHouse])) (h0 : Dn I) (h1 : Dn I) : r_dl g_dk p_dk (x0, x1, ()) (k + 1) pt1 (h0_dl x0 x1 h0 h1) =
  (bif (decide (h1 < h0)) then (bif (bif (decide ((0 : Int) <= h1)) then (decide (h1 < (List.length x0 : Int))) else false) then (cl (p_dk ((rdL (e := S_DayDay) x0 h1), (x1.1, ()))) (g_dk ((rdL (e := S_DayDay) x0 h1), (x1.1, ()))) fun y0 => (bif y0.1 then (some (h1, ())) else (r_dl g_dk p_dk (x0, x1, ()) k pt1 (h0_dl x0 x1 h0 (w64 (h1 + (1 : Int))))))) else none) else (some ((-1 : Int), ()))) := by kernel_rfl
theorem S_dl (h_dk : C_dk p_dk g_dk) {pre : In_dl -> Bool} {fn : In_dl -> Out_dl} (hev : ∀ x, pre x = true -> ∃ k, E_dl g_dk p_dk k x = some (fn x)) : C_dl pre fn := sound tysOk mixed (fn := Tryz.f193) rfl rfl rfl (.cons h_dk .nil) _ hev
end
/-! dm: gContainsFunc_BatSig__iHouHouse_batchOk_c1 -/
abbrev M_dm : List Vm.Mode := [.imm L_BatSig, .clo 140 [S_HouHouse]]
abbrev R_dm : List (RK × Sh) := [(.imm, .bool)]
abbrev In_dm : Type := (insSh M_dm).den
abbrev Out_dm : Type := (outSh R_dm M_dm).den
abbrev C_dm (pre : In_dm -> Bool) (fn : In_dm -> Out_dm) : Prop := Sound Tryz.prog 142 ⟨M_dm, R_dm, pre, fn⟩
section
variable (g_dl : In_dl -> Out_dl) (p_dl : In_dl -> Bool)
abbrev X_dm : Ctx := ctx tys 9 (conOf [(193, ⟨M_dl, R_dl, p_dl, g_dl⟩)]) (keepOf []) (fun _ => [])
noncomputable abbrev E_dm (k : Nat) (x : In_dm) : Option Out_dm := evFn (X_dm g_dl p_dl) Tryz.f142 R_dm M_dm k x
variable {g_dl p_dl}
theorem ev_dm (k : Nat) (x0 : Dm (.imm L_BatSig)) (x1 : Dm (.clo 140 [S_HouHouse])) : E_dm g_dl p_dl k (x0, x1, ()) =
  (cl (p_dl (x0, ((x1.1, ()), ()))) (g_dl (x0, ((x1.1, ()), ()))) fun y0 => (some ((decide ((0 : Int) <= y0.1)), ()))) := by kernel_rfl
theorem S_dm (h_dl : C_dl p_dl g_dl) {pre : In_dm -> Bool} {fn : In_dm -> Out_dm} (hev : ∀ x, pre x = true -> ∃ k, E_dm g_dl p_dl k x = some (fn x)) : C_dm pre fn := sound tysOk mixed (fn := Tryz.f142) rfl rfl rfl (.cons h_dl .nil) _ hev
end
/-! dn: iHouHouse_batchOk -/
abbrev M_dn : List Vm.Mode := [.imm S_HouHouse, .imm S_BatBatch]
abbrev R_dn : List (RK × Sh) := [(.imm, .bool)]
abbrev In_dn : Type := (insSh M_dn).den
abbrev Out_dn : Type := (outSh R_dn M_dn).den
abbrev C_dn (pre : In_dn -> Bool) (fn : In_dn -> Out_dn) : Prop := Sound Tryz.prog 81 ⟨M_dn, R_dn, pre, fn⟩
section
variable (g_di : In_di -> Out_di) (p_di : In_di -> Bool) (g_dj : In_dj -> Out_dj) (p_dj : In_dj -> Bool) (g_dm : In_dm -> Out_dm) (p_dm : In_dm -> Bool)
abbrev X_dn : Ctx := ctx tys 60 (conOf [(139, ⟨M_di, R_di, p_di, g_di⟩), (141, ⟨M_dj, R_dj, p_dj, g_dj⟩), (142, ⟨M_dm, R_dm, p_dm, g_dm⟩)]) (keepOf [(pt2, (⟨[(2, .asis), (3, .asis), (5, .own), (31, .asis), (32, .asis), (33, .asis)], [(2, .asis), (3, .asis)], []⟩ : Keep))]) (fun _ => [])
noncomputable abbrev E_dn (k : Nat) (x : In_dn) : Option Out_dn := evFn (X_dn g_di p_di g_dj p_dj g_dm p_dm) Tryz.f81 R_dn M_dn k x
def h0_dn (x0 : Dm (.imm S_HouHouse)) (x1 : Dm (.imm S_BatBatch)) (h0 : Dn I) (h1 : Dn I) (h2 : (List (Dn S_SpcTest))) : St := mkS [(2, (AV.ptr 2 none [])), (3, (AV.ptr 3 none [])), (5, (AV.sref 2505 none [])), (31, (AV.val L_TstTest x1.2.2.1)), (32, (AV.val I h0)), (33, (AV.val I h1))] [(2, (Ob.box S_HouHouse (AV.val S_HouHouse x0))), (3, (Ob.box S_BatBatch (AV.val S_BatBatch x1))), (2505, (Ob.arr 137 S_SpcTest h2))]
noncomputable def r_dn (x : In_dn) (k : Nat) (p : List Bool) (s : St) : Option Out_dn := rounds (X_dn g_di p_di g_dj p_dj g_dm p_dm) Tryz.f81 R_dn M_dn x k p s
variable {g_di p_di g_dj p_dj g_dm p_dm}
theorem ev_dn (k : Nat) (x0 : Dm (.imm S_HouHouse)) (x1 : Dm (.imm S_BatBatch)) : E_dn g_di p_di g_dj p_dj g_dm p_dm k (x0, x1, ()) =
  (cl (p_di (x1, ())) (g_di (x1, ())) fun y0 => (bif (bif y0.1 then false else true) then (some (false, ())) else (bif (decide ((List.length x0.2.1 : Int) <= x1.1)) then (some (false, ())) else (bif (bif (decide ((0 : Int) <= x1.1)) then (decide (x1.1 < (List.length x0.2.1 : Int))) else false) then (bif (decide ((rdL (e := S_SpcSpec) x0.2.1 x1.1).2 = (1 : Int))) then (some (false, ())) else (r_dn g_di p_di g_dj p_dj g_dm p_dm (x0, x1, ()) k pt2 (h0_dn x0 x1 (List.length x1.2.2.1 : Int) (0 : Int) []))) else none)))) := by kernel_rfl
theorem rd0_dn (k : Nat) (x0 : Dm (.imm S_HouHouse)) (x1 : Dm (.imm S_BatBatch)) (h0 : Dn I) (h1 : Dn I) (h2 : (List (Dn S_SpcTest))) : r_dn g_di p_di g_dj p_dj g_dm p_dm (x0, x1, ()) (k + 1) pt2 (h0_dn x0 x1 h0 h1 h2) =
  (bif (decide (h1 < h0)) then (bif (bif (decide ((0 : Int) <= h1)) then (decide (h1 < (List.length x1.2.2.1 : Int))) else false) then (bif (fitL h2 [((rdL (e := S_TstTest) x1.2.2.1 h1).1)]) then (r_dn g_di p_di g_dj p_dj g_dm p_dm (x0, x1, ()) k pt2 (h0_dn x0 x1 h0 (w64 (h1 + (1 : Int))) (List.append h2 [((rdL (e := S_TstTest) x1.2.2.1 h1).1)]))) else none) else none) else (bif (bif (decide ((0 : Int) <= x1.1)) then (decide (x1.1 < (List.length x0.2.1 : Int))) else false) then (cl (p_dj (h2, ((rdL (e := S_SpcSpec) x0.2.1 x1.1).1, ()))) (g_dj (h2, ((rdL (e := S_SpcSpec) x0.2.1 x1.1).1, ()))) fun y0 => (bif y0.1 then (cl (p_dm (x1.2.2.2.2.1, ((x0, ()), ()))) (g_dm (x1.2.2.2.2.1, ((x0, ()), ()))) fun y1 => (some ((bif y1.1 then false else true), ()))) else (some (false, ())))) else none)) := by kernel_rfl
theorem S_dn (h_di : C_di p_di g_di) (h_dj : C_dj p_dj g_dj) (h_dm : C_dm p_dm g_dm) {pre : In_dn -> Bool} {fn : In_dn -> Out_dn} (hev : ∀ x, pre x = true -> ∃ k, E_dn g_di p_di g_dj p_dj g_dm p_dm k x = some (fn x)) : C_dn pre fn := sound tysOk mixed (fn := Tryz.f81) rfl rfl rfl (.cons h_di (.cons h_dj (.cons h_dm .nil))) _ hev
end
/-! do: iHouOk_c1 -/
abbrev M_do : List Vm.Mode := [.imm S_BatBatch, .pR S_HouHouse]
abbrev R_do : List (RK × Sh) := [(.imm, .bool)]
abbrev In_do : Type := (insSh M_do).den
abbrev Out_do : Type := (outSh R_do M_do).den
abbrev C_do (pre : In_do -> Bool) (fn : In_do -> Out_do) : Prop := Sound Tryz.prog 80 ⟨M_do, R_do, pre, fn⟩
section
variable (g_dn : In_dn -> Out_dn) (p_dn : In_dn -> Bool)
abbrev X_do : Ctx := ctx tys 8 (conOf [(81, ⟨M_dn, R_dn, p_dn, g_dn⟩)]) (keepOf []) (fun _ => [])
noncomputable abbrev E_do (k : Nat) (x : In_do) : Option Out_do := evFn (X_do g_dn p_dn) Tryz.f80 R_do M_do k x
variable {g_dn p_dn}
theorem ev_do (k : Nat) (x0 : Dm (.imm S_BatBatch)) (x1 : Dm (.pR S_HouHouse)) : E_do g_dn p_dn k (x0, x1, ()) =
  (cl (p_dn (x1, (x0, ()))) (g_dn (x1, (x0, ()))) fun y0 => (some ((bif y0.1 then false else true), ()))) := by kernel_rfl
theorem S_do (h_dn : C_dn p_dn g_dn) {pre : In_do -> Bool} {fn : In_do -> Out_do} (hev : ∀ x, pre x = true -> ∃ k, E_do g_dn p_dn k x = some (fn x)) : C_do pre fn := sound tysOk mixed (fn := Tryz.f80) rfl rfl rfl (.cons h_dn .nil) _ hev
end
/-! dp: gIndexFunc_BatBatch__iHouOk_c1 -/
abbrev M_dp : List Vm.Mode := [.imm L_BatBatch, .clo 80 [S_HouHouse]]
abbrev R_dp : List (RK × Sh) := [(.imm, I)]
abbrev In_dp : Type := (insSh M_dp).den
abbrev Out_dp : Type := (outSh R_dp M_dp).den
abbrev C_dp (pre : In_dp -> Bool) (fn : In_dp -> Out_dp) : Prop := Sound Tryz.prog 145 ⟨M_dp, R_dp, pre, fn⟩
section
variable (g_do : In_do -> Out_do) (p_do : In_do -> Bool)
abbrev X_dp : Ctx := ctx tys 19 (conOf [(80, ⟨M_do, R_do, p_do, g_do⟩)]) (keepOf [(pt1, (⟨[(0, .asis), (1, .asis), (7, .asis), (8, .asis)], [(1000005000, .asis)], []⟩ : Keep))]) (fun _ => [])
noncomputable abbrev E_dp (k : Nat) (x : In_dp) : Option Out_dp := evFn (X_dp g_do p_do) Tryz.f145 R_dp M_dp k x
def h0_dp (x0 : Dm (.imm L_BatBatch)) (x1 : Dm (.clo 80 [S_HouHouse])) (h0 : Dn I) (h1 : Dn I) : St := mkS [(0, (AV.val L_BatBatch x0)), (1, (AV.fn 80 [1000005000])), (7, (AV.val I h0)), (8, (AV.val I h1))] [(1000005000, (Ob.cbox S_HouHouse x1.1))]
noncomputable def r_dp (x : In_dp) (k : Nat) (p : List Bool) (s : St) : Option Out_dp := rounds (X_dp g_do p_do) Tryz.f145 R_dp M_dp x k p s
variable {g_do p_do}
theorem ev_dp (k : Nat) (x0 : Dm (.imm L_BatBatch)) (x1 : Dm (.clo 80 [S_HouHouse])) : E_dp g_do p_do k (x0, x1, ()) =
  (r_dp g_do p_do (x0, x1, ()) k pt1 (h0_dp x0 x1 (List.length x0 : Int) (0 : Int))) := by kernel_rfl
theorem rd0_dp (k : Nat) (x0 : Dm (.imm L_BatBatch)) (x1 : Dm (.clo 80 [S_HouHouse])) (h0 : Dn I) (h1 : Dn I) : r_dp g_do p_do (x0, x1, ()) (k + 1) pt1 (h0_dp x0 x1 h0 h1) =
  (bif (decide (h1 < h0)) then (bif (bif (decide ((0 : Int) <= h1)) then (decide (h1 < (List.length x0 : Int))) else false) then (cl (p_do ((rdL (e := S_BatBatch) x0 h1), (x1.1, ()))) (g_do ((rdL (e := S_BatBatch) x0 h1), (x1.1, ()))) fun y0 => (bif y0.1 then (some (h1, ())) else (r_dp g_do p_do (x0, x1, ()) k pt1 (h0_dp x0 x1 h0 (w64 (h1 + (1 : Int))))))) else none) else (some ((-1 : Int), ()))) := by kernel_rfl
theorem S_dp (h_do : C_do p_do g_do) {pre : In_dp -> Bool} {fn : In_dp -> Out_dp} (hev : ∀ x, pre x = true -> ∃ k, E_dp g_do p_do k x = some (fn x)) : C_dp pre fn := sound tysOk mixed (fn := Tryz.f145) rfl rfl rfl (.cons h_do .nil) _ hev
end
/-! dq: gContainsFunc_BatBatch__iHouOk_c1 -/
abbrev M_dq : List Vm.Mode := [.imm L_BatBatch, .clo 80 [S_HouHouse]]
abbrev R_dq : List (RK × Sh) := [(.imm, .bool)]
abbrev In_dq : Type := (insSh M_dq).den
abbrev Out_dq : Type := (outSh R_dq M_dq).den
abbrev C_dq (pre : In_dq -> Bool) (fn : In_dq -> Out_dq) : Prop := Sound Tryz.prog 84 ⟨M_dq, R_dq, pre, fn⟩
section
variable (g_dp : In_dp -> Out_dp) (p_dp : In_dp -> Bool)
abbrev X_dq : Ctx := ctx tys 9 (conOf [(145, ⟨M_dp, R_dp, p_dp, g_dp⟩)]) (keepOf []) (fun _ => [])
noncomputable abbrev E_dq (k : Nat) (x : In_dq) : Option Out_dq := evFn (X_dq g_dp p_dp) Tryz.f84 R_dq M_dq k x
variable {g_dp p_dp}
theorem ev_dq (k : Nat) (x0 : Dm (.imm L_BatBatch)) (x1 : Dm (.clo 80 [S_HouHouse])) : E_dq g_dp p_dp k (x0, x1, ()) =
  (cl (p_dp (x0, ((x1.1, ()), ()))) (g_dp (x0, ((x1.1, ()), ()))) fun y0 => (some ((decide ((0 : Int) <= y0.1)), ()))) := by kernel_rfl
theorem S_dq (h_dp : C_dp p_dp g_dp) {pre : In_dq -> Bool} {fn : In_dq -> Out_dq} (hev : ∀ x, pre x = true -> ∃ k, E_dq g_dp p_dp k x = some (fn x)) : C_dq pre fn := sound tysOk mixed (fn := Tryz.f84) rfl rfl rfl (.cons h_dp .nil) _ hev
end
/-! dr: iHouOk -/
abbrev M_dr : List Vm.Mode := [.imm S_HouHouse]
abbrev R_dr : List (RK × Sh) := [(.imm, .bool)]
abbrev In_dr : Type := (insSh M_dr).den
abbrev Out_dr : Type := (outSh R_dr M_dr).den
abbrev C_dr (pre : In_dr -> Bool) (fn : In_dr -> Out_dr) : Prop := Sound Tryz.prog 27 ⟨M_dr, R_dr, pre, fn⟩
section
variable (g_cb : In_cb -> Out_cb) (p_cb : In_cb -> Bool) (g_cm : In_cm -> Out_cm) (p_cm : In_cm -> Bool) (g_dq : In_dq -> Out_dq) (p_dq : In_dq -> Bool)
abbrev X_dr : Ctx := ctx tys 26 (conOf [(82, ⟨M_cb, R_cb, p_cb, g_cb⟩), (83, ⟨M_cm, R_cm, p_cm, g_cm⟩), (84, ⟨M_dq, R_dq, p_dq, g_dq⟩)]) (keepOf []) (fun _ => [])
noncomputable abbrev E_dr (k : Nat) (x : In_dr) : Option Out_dr := evFn (X_dr g_cb p_cb g_cm p_cm g_dq p_dq) Tryz.f27 R_dr M_dr k x
variable {g_cb p_cb g_cm p_cm g_dq p_dq}
theorem ev_dr (k : Nat) (x0 : Dm (.imm S_HouHouse)) : E_dr g_cb p_cb g_cm p_cm g_dq p_dq k (x0, ()) =
  (cl (p_cb (x0.1, ())) (g_cb (x0.1, ())) fun y0 => (bif y0.1 then (cl (p_cm (x0.2.1, ())) (g_cm (x0.2.1, ())) fun y1 => (bif y1.1 then (bif (decide ((List.length x0.2.2 : Int) <= (4 : Int))) then (cl (p_dq (x0.2.2, ((x0, ()), ()))) (g_dq (x0.2.2, ((x0, ()), ()))) fun y2 => (some ((bif y2.1 then false else true), ()))) else (some (false, ()))) else (some (false, ())))) else (some (false, ())))) := by kernel_rfl
theorem S_dr (h_cb : C_cb p_cb g_cb) (h_cm : C_cm p_cm g_cm) (h_dq : C_dq p_dq g_dq) {pre : In_dr -> Bool} {fn : In_dr -> Out_dr} (hev : ∀ x, pre x = true -> ∃ k, E_dr g_cb p_cb g_cm p_cm g_dq p_dq k x = some (fn x)) : C_dr pre fn := sound tysOk mixed (fn := Tryz.f27) rfl rfl rfl (.cons h_cb (.cons h_cm (.cons h_dq .nil))) _ hev
end
/-! ds: imanners -/
abbrev M_ds : List Vm.Mode := []
abbrev R_ds : List (RK × Sh) := [(.imm, L_manner)]
abbrev In_ds : Type := (insSh M_ds).den
abbrev Out_ds : Type := (outSh R_ds M_ds).den
abbrev C_ds (pre : In_ds -> Bool) (fn : In_ds -> Out_ds) : Prop := Sound Tryz.prog 108 ⟨M_ds, R_ds, pre, fn⟩
abbrev X_ds : Ctx := ctx tys 35 (conOf []) (keepOf []) (fzOf [(5, [1, 2, 3, 4])])
noncomputable abbrev E_ds (k : Nat) (x : In_ds) : Option Out_ds := evFn X_ds Tryz.f108 R_ds M_ds k x
theorem ev_ds (k : Nat)  : E_ds k (()) =
  (some ([((ByteArray.mk (Array.mk [])), ([], (ByteArray.mk (Array.mk [])))), ((ByteArray.mk (Array.mk [(100 : UInt8), (114 : UInt8), (97 : UInt8), (102 : UInt8), (116 : UInt8)])), ([(4 : Int)], (ByteArray.mk (Array.mk [])))), ((ByteArray.mk (Array.mk [(114 : UInt8), (97 : UInt8), (105 : UInt8), (115 : UInt8), (101 : UInt8)])), ([(4 : Int)], (ByteArray.mk (Array.mk [(78 : UInt8)])))), ((ByteArray.mk (Array.mk [(116 : UInt8), (97 : UInt8), (107 : UInt8), (101 : UInt8)])), ([(1 : Int), (2 : Int)], (ByteArray.mk (Array.mk [(78 : UInt8)])))), ((ByteArray.mk (Array.mk [(112 : UInt8), (117 : UInt8), (116 : UInt8)])), ([(1 : Int), (2 : Int)], (ByteArray.mk (Array.mk [(66 : UInt8), (84 : UInt8), (86 : UInt8)])))), ((ByteArray.mk (Array.mk [(99 : UInt8), (97 : UInt8), (117 : UInt8), (115 : UInt8), (101 : UInt8)])), ([(2 : Int), (3 : Int)], (ByteArray.mk (Array.mk [(66 : UInt8), (84 : UInt8), (78 : UInt8)])))), ((ByteArray.mk (Array.mk [(109 : UInt8), (111 : UInt8), (114 : UInt8), (101 : UInt8)])), ([(1 : Int), (2 : Int)], (ByteArray.mk (Array.mk [(66 : UInt8), (84 : UInt8), (86 : UInt8)])))), ((ByteArray.mk (Array.mk [(111 : UInt8), (112 : UInt8), (101 : UInt8), (110 : UInt8)])), ([(1 : Int), (2 : Int)], (ByteArray.mk (Array.mk [(66 : UInt8)])))), ((ByteArray.mk (Array.mk [(99 : UInt8), (108 : UInt8), (111 : UInt8), (115 : UInt8), (101 : UInt8)])), ([(2 : Int), (3 : Int)], (ByteArray.mk (Array.mk [(66 : UInt8), (78 : UInt8)])))), ((ByteArray.mk (Array.mk [(115 : UInt8), (105 : UInt8), (103 : UInt8), (110 : UInt8)])), ([(2 : Int), (3 : Int)], (ByteArray.mk (Array.mk [(66 : UInt8)])))), ((ByteArray.mk (Array.mk [(102 : UInt8), (114 : UInt8), (101 : UInt8), (101 : UInt8)])), ([(3 : Int)], (ByteArray.mk (Array.mk [(66 : UInt8)])))), ((ByteArray.mk (Array.mk [(114 : UInt8), (101 : UInt8), (102 : UInt8), (117 : UInt8), (115 : UInt8), (101 : UInt8)])), ([(3 : Int)], (ByteArray.mk (Array.mk [(66 : UInt8)])))), ((ByteArray.mk (Array.mk [(114 : UInt8), (101 : UInt8), (99 : UInt8), (97 : UInt8), (108 : UInt8), (108 : UInt8)])), ([(3 : Int)], (ByteArray.mk (Array.mk [(66 : UInt8)]))))], ())) := by kernel_rfl
theorem S_ds  {pre : In_ds -> Bool} {fn : In_ds -> Out_ds} (hev : ∀ x, pre x = true -> ∃ k, E_ds k x = some (fn x)) : C_ds pre fn := sound tysOk mixed (fn := Tryz.f108) rfl rfl rfl ConsOk.nil _ hev
/-! dt: imannerOf -/
abbrev M_dt : List Vm.Mode := [.imm I]
abbrev R_dt : List (RK × Sh) := [(.imm, S_manner)]
abbrev In_dt : Type := (insSh M_dt).den
abbrev Out_dt : Type := (outSh R_dt M_dt).den
abbrev C_dt (pre : In_dt -> Bool) (fn : In_dt -> Out_dt) : Prop := Sound Tryz.prog 42 ⟨M_dt, R_dt, pre, fn⟩
section
variable (g_iin : In_iin -> Out_iin) (g_ds : In_ds -> Out_ds)
abbrev X_dt : Ctx := ctx tys 11 (conOf [(41, ⟨M_iin, R_iin, fun _ => true, g_iin⟩), (108, ⟨M_ds, R_ds, fun _ => true, g_ds⟩)]) (keepOf []) (fun _ => [])
noncomputable abbrev E_dt (k : Nat) (x : In_dt) : Option Out_dt := evFn (X_dt g_iin g_ds) Tryz.f42 R_dt M_dt k x
variable {g_iin g_ds}
theorem ev_dt (k : Nat) (x0 : Dm (.imm I)) : E_dt g_iin g_ds k (x0, ()) =
  (bif (bif (g_iin (x0, ((1 : Int), ((12 : Int), ())))).1 then false else true) then (some (((ByteArray.mk (Array.mk [])), ([], (ByteArray.mk (Array.mk [])))), ())) else (bif (bif (decide ((0 : Int) <= x0)) then (decide (x0 < (List.length (g_ds ()).1 : Int))) else false) then (some ((rdL (e := S_manner) (g_ds ()).1 x0), ())) else none)) := by kernel_rfl
theorem S_dt (h_iin : C_iin (fun _ => true) g_iin) (h_ds : C_ds (fun _ => true) g_ds) {pre : In_dt -> Bool} {fn : In_dt -> Out_dt} (hev : ∀ x, pre x = true -> ∃ k, E_dt g_iin g_ds k x = some (fn x)) : C_dt pre fn := sound tysOk mixed (fn := Tryz.f42) rfl rfl rfl (.cons h_iin (.cons h_ds .nil)) _ hev
end
/-! du: ginternal_bytealg_IndexByteString -/
abbrev M_du : List Vm.Mode := [.imm .str, .imm U8]
abbrev R_du : List (RK × Sh) := [(.imm, I)]
abbrev In_du : Type := (insSh M_du).den
abbrev Out_du : Type := (outSh R_du M_du).den
abbrev C_du (pre : In_du -> Bool) (fn : In_du -> Out_du) : Prop := Sound Tryz.prog 249 ⟨M_du, R_du, pre, fn⟩
theorem s_du : C_du (fun _ => true) (fun x => (Go.Lib.indexByte x.1.data.toList x.2.1.toNat.toUInt8, ())) := sound_indexByte (fn := Tryz.f249) rfl rfl rfl rfl rfl
/-! dv: ginternal_stringslite_IndexByte -/
abbrev M_dv : List Vm.Mode := [.imm .str, .imm U8]
abbrev R_dv : List (RK × Sh) := [(.imm, I)]
abbrev In_dv : Type := (insSh M_dv).den
abbrev Out_dv : Type := (outSh R_dv M_dv).den
abbrev C_dv (pre : In_dv -> Bool) (fn : In_dv -> Out_dv) : Prop := Sound Tryz.prog 216 ⟨M_dv, R_dv, pre, fn⟩
section
variable (g_du : In_du -> Out_du) (p_du : In_du -> Bool)
abbrev X_dv : Ctx := ctx tys 8 (conOf [(249, ⟨M_du, R_du, p_du, g_du⟩)]) (keepOf []) (fun _ => [])
noncomputable abbrev E_dv (k : Nat) (x : In_dv) : Option Out_dv := evFn (X_dv g_du p_du) Tryz.f216 R_dv M_dv k x
variable {g_du p_du}
theorem ev_dv (k : Nat) (x0 : Dm (.imm .str)) (x1 : Dm (.imm U8)) : E_dv g_du p_du k (x0, x1, ()) =
  (cl (p_du (x0, (x1, ()))) (g_du (x0, (x1, ()))) fun y0 => (some (y0.1, ()))) := by kernel_rfl
theorem S_dv (h_du : C_du p_du g_du) {pre : In_dv -> Bool} {fn : In_dv -> Out_dv} (hev : ∀ x, pre x = true -> ∃ k, E_dv g_du p_du k x = some (fn x)) : C_dv pre fn := sound tysOk mixed (fn := Tryz.f216) rfl rfl rfl (.cons h_du .nil) _ hev
end
/-! dw: ginternal_stringslite_Index -/
abbrev M_dw : List Vm.Mode := [.imm .str, .imm .str]
abbrev R_dw : List (RK × Sh) := [(.imm, I)]
abbrev In_dw : Type := (insSh M_dw).den
abbrev Out_dw : Type := (outSh R_dw M_dw).den
abbrev C_dw (pre : In_dw -> Bool) (fn : In_dw -> Out_dw) : Prop := Sound Tryz.prog 166 ⟨M_dw, R_dw, pre, fn⟩
section
variable (g_dv : In_dv -> Out_dv) (p_dv : In_dv -> Bool)
abbrev X_dw : Ctx := ctx tys 143 (conOf [(216, ⟨M_dv, R_dv, p_dv, g_dv⟩)]) (keepOf [([false, false, true, true, true, true, true, true, true, true], (⟨[(0, .asis), (1, .asis), (5, .asis), (6, .asis), (7, .asis), (8, .asis), (9, .asis), (10, .asis)], [], [999999]⟩ : Keep))]) (fun _ => [])
noncomputable abbrev E_dw (k : Nat) (x : In_dw) : Option Out_dw := evFn (X_dw g_dv p_dv) Tryz.f166 R_dw M_dw k x
noncomputable def r_dw (x : In_dw) (k : Nat) (p : List Bool) (s : St) : Option Out_dw := rounds (X_dw g_dv p_dv) Tryz.f166 R_dw M_dw x k p s
variable {g_dv p_dv}
theorem ev_dw (k : Nat) (x0 : Dm (.imm .str)) (x1 : Dm (.imm .str)) : E_dw g_dv p_dv k (x0, x1, ()) =
  (bif (decide (((ByteArray.size x1 : Nat) : Int) = (0 : Int))) then (some ((0 : Int), ())) else (bif (ByteArray.toList x1 == ByteArray.toList x0) then (some ((0 : Int), ())) else (bif (decide (((ByteArray.size x1 : Nat) : Int) = (1 : Int))) then (bif (bif (decide ((0 : Int) <= (0 : Int))) then (decide ((0 : Int) < ((ByteArray.size x1 : Nat) : Int))) else false) then (cl (p_dv (x0, ((strAt x1 (0 : Int)), ()))) (g_dv (x0, ((strAt x1 (0 : Int)), ()))) fun y0 => (some (y0.1, ()))) else none) else (bif (decide (((ByteArray.size x0 : Nat) : Int) <= ((ByteArray.size x1 : Nat) : Int))) then (some ((-1 : Int), ())) else none)))) := by kernel_rfl
theorem S_dw (h_dv : C_dv p_dv g_dv) {pre : In_dw -> Bool} {fn : In_dw -> Out_dw} (hev : ∀ x, pre x = true -> ∃ k, E_dw g_dv p_dv k x = some (fn x)) : C_dw pre fn := sound tysOk mixed (fn := Tryz.f166) rfl rfl rfl (.cons h_dv .nil) _ hev
end
/-! dx: gstrings_Index -/
abbrev M_dx : List Vm.Mode := [.imm .str, .imm .str]
abbrev R_dx : List (RK × Sh) := [(.imm, I)]
abbrev In_dx : Type := (insSh M_dx).den
abbrev Out_dx : Type := (outSh R_dx M_dx).den
abbrev C_dx (pre : In_dx -> Bool) (fn : In_dx -> Out_dx) : Prop := Sound Tryz.prog 109 ⟨M_dx, R_dx, pre, fn⟩
section
variable (g_dw : In_dw -> Out_dw) (p_dw : In_dw -> Bool)
abbrev X_dx : Ctx := ctx tys 8 (conOf [(166, ⟨M_dw, R_dw, p_dw, g_dw⟩)]) (keepOf []) (fun _ => [])
noncomputable abbrev E_dx (k : Nat) (x : In_dx) : Option Out_dx := evFn (X_dx g_dw p_dw) Tryz.f109 R_dx M_dx k x
variable {g_dw p_dw}
theorem ev_dx (k : Nat) (x0 : Dm (.imm .str)) (x1 : Dm (.imm .str)) : E_dx g_dw p_dw k (x0, x1, ()) =
  (cl (p_dw (x0, (x1, ()))) (g_dw (x0, (x1, ()))) fun y0 => (some (y0.1, ()))) := by kernel_rfl
theorem S_dx (h_dw : C_dw p_dw g_dw) {pre : In_dx -> Bool} {fn : In_dx -> Out_dx} (hev : ∀ x, pre x = true -> ∃ k, E_dx g_dw p_dw k x = some (fn x)) : C_dx pre fn := sound tysOk mixed (fn := Tryz.f109) rfl rfl rfl (.cons h_dw .nil) _ hev
end
/-! dy: gstrings_Contains -/
abbrev M_dy : List Vm.Mode := [.imm .str, .imm .str]
abbrev R_dy : List (RK × Sh) := [(.imm, .bool)]
abbrev In_dy : Type := (insSh M_dy).den
abbrev Out_dy : Type := (outSh R_dy M_dy).den
abbrev C_dy (pre : In_dy -> Bool) (fn : In_dy -> Out_dy) : Prop := Sound Tryz.prog 44 ⟨M_dy, R_dy, pre, fn⟩
section
variable (g_dx : In_dx -> Out_dx) (p_dx : In_dx -> Bool)
abbrev X_dy : Ctx := ctx tys 9 (conOf [(109, ⟨M_dx, R_dx, p_dx, g_dx⟩)]) (keepOf []) (fun _ => [])
noncomputable abbrev E_dy (k : Nat) (x : In_dy) : Option Out_dy := evFn (X_dy g_dx p_dx) Tryz.f44 R_dy M_dy k x
variable {g_dx p_dx}
theorem ev_dy (k : Nat) (x0 : Dm (.imm .str)) (x1 : Dm (.imm .str)) : E_dy g_dx p_dx k (x0, x1, ()) =
  (cl (p_dx (x0, (x1, ()))) (g_dx (x0, (x1, ()))) fun y0 => (some ((decide ((0 : Int) <= y0.1)), ()))) := by kernel_rfl
theorem S_dy (h_dx : C_dx p_dx g_dx) {pre : In_dy -> Bool} {fn : In_dy -> Out_dy} (hev : ∀ x, pre x = true -> ∃ k, E_dy g_dx p_dx k x = some (fn x)) : C_dy pre fn := sound tysOk mixed (fn := Tryz.f44) rfl rfl rfl (.cons h_dx .nil) _ hev
end
/-! dz: iReqOk_c1 -/
abbrev M_dz : List Vm.Mode := [.imm .str, .pR S_manner]
abbrev R_dz : List (RK × Sh) := [(.imm, .bool)]
abbrev In_dz : Type := (insSh M_dz).den
abbrev Out_dz : Type := (outSh R_dz M_dz).den
abbrev C_dz (pre : In_dz -> Bool) (fn : In_dz -> Out_dz) : Prop := Sound Tryz.prog 43 ⟨M_dz, R_dz, pre, fn⟩
section
variable (g_dy : In_dy -> Out_dy) (p_dy : In_dy -> Bool)
abbrev X_dz : Ctx := ctx tys 8 (conOf [(44, ⟨M_dy, R_dy, p_dy, g_dy⟩)]) (keepOf []) (fun _ => [])
noncomputable abbrev E_dz (k : Nat) (x : In_dz) : Option Out_dz := evFn (X_dz g_dy p_dy) Tryz.f43 R_dz M_dz k x
variable {g_dy p_dy}
theorem ev_dz (k : Nat) (x0 : Dm (.imm .str)) (x1 : Dm (.pR S_manner)) : E_dz g_dy p_dy k (x0, x1, ()) =
  (cl (p_dy (x1.2.2, (x0, ()))) (g_dy (x1.2.2, (x0, ()))) fun y0 => (some (y0.1, ()))) := by kernel_rfl
theorem S_dz (h_dy : C_dy p_dy g_dy) {pre : In_dz -> Bool} {fn : In_dz -> Out_dz} (hev : ∀ x, pre x = true -> ∃ k, E_dz g_dy p_dy k x = some (fn x)) : C_dz pre fn := sound tysOk mixed (fn := Tryz.f43) rfl rfl rfl (.cons h_dy .nil) _ hev
end
/-! e0: iReqOk -/
abbrev M_e0 : List Vm.Mode := [.imm S_ReqReq]
abbrev R_e0 : List (RK × Sh) := [(.imm, .bool)]
abbrev In_e0 : Type := (insSh M_e0).den
abbrev Out_e0 : Type := (outSh R_e0 M_e0).den
abbrev C_e0 (pre : In_e0 -> Bool) (fn : In_e0 -> Out_e0) : Prop := Sound Tryz.prog 11 ⟨M_e0, R_e0, pre, fn⟩
section
variable (g_dt : In_dt -> Out_dt) (g_cl : In_cl -> Out_cl) (p_cl : In_cl -> Bool) (g_dz : In_dz -> Out_dz) (p_dz : In_dz -> Bool) (g_iin : In_iin -> Out_iin) (g_ce : In_ce -> Out_ce) (g_cc : In_cc -> Out_cc) (g_d0 : In_d0 -> Out_d0)
abbrev X_e0 : Ctx := ctx tys 92 (conOf [(42, ⟨M_dt, R_dt, fun _ => true, g_dt⟩), (45, ⟨M_cl, R_cl, p_cl, g_cl⟩), (43, ⟨M_dz, R_dz, p_dz, g_dz⟩), (41, ⟨M_iin, R_iin, fun _ => true, g_iin⟩), (46, ⟨M_ce, R_ce, fun _ => true, g_ce⟩), (47, ⟨M_cc, R_cc, fun _ => true, g_cc⟩), (48, ⟨M_d0, R_d0, fun _ => true, g_d0⟩)]) (keepOf []) (fun _ => [])
noncomputable abbrev E_e0 (k : Nat) (x : In_e0) : Option Out_e0 := evFn (X_e0 g_dt g_cl p_cl g_dz p_dz g_iin g_ce g_cc g_d0) Tryz.f11 R_e0 M_e0 k x
variable {g_dt g_cl p_cl g_dz p_dz g_iin g_ce g_cc g_d0}
theorem ev_e0 (k : Nat) (x0 : Dm (.imm S_ReqReq)) : E_e0 g_dt g_cl p_cl g_dz p_dz g_iin g_ce g_cc g_d0 k (x0, ()) =
  (lt (ByteArray.toList (g_dt (x0.2.1, ())).1.1 == ByteArray.toList (ByteArray.mk (Array.mk []))) fun s10 => (lt (decide ((List.length x0.2.2.2.2.2.2 : Int) = (0 : Int))) fun s9 => (lt (g_iin (x0.2.2.2.2.1, ((0 : Int), ((10000 : Int), ())))) fun s8 => (lt (g_iin (x0.2.2.1, ((0 : Int), ((9 : Int), ())))) fun s4 => (lt (ByteArray.mk (Array.mk [(66 : UInt8)])) fun s3 => (lt (ByteArray.mk (Array.mk [(78 : UInt8)])) fun s2 => (lt (g_dz (s2, ((g_dt (x0.2.1, ())).1, ()))) fun s7 => (lt (ByteArray.mk (Array.mk [(86 : UInt8)])) fun s1 => (lt (g_dz (s1, ((g_dt (x0.2.1, ())).1, ()))) fun s6 => (lt (ByteArray.mk (Array.mk [(84 : UInt8)])) fun s0 => (lt (g_dz (s0, ((g_dt (x0.2.1, ())).1, ()))) fun s5 => (bif (decide (x0.2.1 = (1 : Int))) then (cl (p_cl (x0.2.2.2.2.2.2, ())) (g_cl (x0.2.2.2.2.2.2, ())) fun y0 => (bif (decide (x0.2.2.1 = (0 : Int))) then (bif (decide (x0.2.2.2.2.1 = (0 : Int))) then (bif (Sh.beq S_DecDec x0.2.2.2.2.2.1 ((0 : Int), (0 : Int))) then (cl (p_dz (s0, ((g_dt (x0.2.1, ())).1, ()))) s5 fun y1 => (bif y1.1 then (bif (bif s10 then false else true) then (bif (g_d0 (x0.1, ())).1 then (bif (g_cc (x0.2.2.2.1, ())).1 then (some (y0.1, ())) else (some (false, ()))) else (some (false, ()))) else (some (false, ()))) else (bif (bif s10 then false else true) then (bif (g_d0 (x0.1, ())).1 then (bif (decide (x0.2.2.2.1 = (0 : Int))) then (some (y0.1, ())) else (some (false, ()))) else (some (false, ()))) else (some (false, ()))))) else (cl (p_dz (s1, ((g_dt (x0.2.1, ())).1, ()))) s6 fun y2 => (bif y2.1 then (cl (p_dz (s0, ((g_dt (x0.2.1, ())).1, ()))) s5 fun y3 => (bif y3.1 then (bif (bif s10 then false else true) then (bif (g_d0 (x0.1, ())).1 then (bif (g_ce (x0.2.2.2.2.2.1, ())).1 then (bif (g_cc (x0.2.2.2.1, ())).1 then (some (y0.1, ())) else (some (false, ()))) else (some (false, ()))) else (some (false, ()))) else (some (false, ()))) else (bif (bif s10 then false else true) then (bif (g_d0 (x0.1, ())).1 then (bif (g_ce (x0.2.2.2.2.2.1, ())).1 then (bif (decide (x0.2.2.2.1 = (0 : Int))) then (some (y0.1, ())) else (some (false, ()))) else (some (false, ()))) else (some (false, ()))) else (some (false, ()))))) else (cl (p_dz (s0, ((g_dt (x0.2.1, ())).1, ()))) s5 fun y4 => (bif y4.1 then (bif (bif s10 then false else true) then (bif (g_d0 (x0.1, ())).1 then (some (false, ())) else (some (false, ()))) else (some (false, ()))) else (bif (bif s10 then false else true) then (bif (g_d0 (x0.1, ())).1 then (some (false, ())) else (some (false, ()))) else (some (false, ())))))))) else (cl (p_dz (s2, ((g_dt (x0.2.1, ())).1, ()))) s7 fun y5 => (bif y5.1 then (bif (Sh.beq S_DecDec x0.2.2.2.2.2.1 ((0 : Int), (0 : Int))) then (cl (p_dz (s0, ((g_dt (x0.2.1, ())).1, ()))) s5 fun y6 => (bif y6.1 then (bif (bif s10 then false else true) then (bif (g_d0 (x0.1, ())).1 then (bif s8.1 then (bif (g_cc (x0.2.2.2.1, ())).1 then (some (y0.1, ())) else (some (false, ()))) else (some (false, ()))) else (some (false, ()))) else (some (false, ()))) else (bif (bif s10 then false else true) then (bif (g_d0 (x0.1, ())).1 then (bif s8.1 then (bif (decide (x0.2.2.2.1 = (0 : Int))) then (some (y0.1, ())) else (some (false, ()))) else (some (false, ()))) else (some (false, ()))) else (some (false, ()))))) else (cl (p_dz (s1, ((g_dt (x0.2.1, ())).1, ()))) s6 fun y7 => (bif y7.1 then (cl (p_dz (s0, ((g_dt (x0.2.1, ())).1, ()))) s5 fun y8 => (bif y8.1 then (bif (bif s10 then false else true) then (bif (g_d0 (x0.1, ())).1 then (bif s8.1 then (bif (g_ce (x0.2.2.2.2.2.1, ())).1 then (bif (g_cc (x0.2.2.2.1, ())).1 then (some (y0.1, ())) else (some (false, ()))) else (some (false, ()))) else (some (false, ()))) else (some (false, ()))) else (some (false, ()))) else (bif (bif s10 then false else true) then (bif (g_d0 (x0.1, ())).1 then (bif s8.1 then (bif (g_ce (x0.2.2.2.2.2.1, ())).1 then (bif (decide (x0.2.2.2.1 = (0 : Int))) then (some (y0.1, ())) else (some (false, ()))) else (some (false, ()))) else (some (false, ()))) else (some (false, ()))) else (some (false, ()))))) else (cl (p_dz (s0, ((g_dt (x0.2.1, ())).1, ()))) s5 fun y9 => (bif y9.1 then (bif (bif s10 then false else true) then (bif (g_d0 (x0.1, ())).1 then (bif s8.1 then (some (false, ())) else (some (false, ()))) else (some (false, ()))) else (some (false, ()))) else (bif (bif s10 then false else true) then (bif (g_d0 (x0.1, ())).1 then (bif s8.1 then (some (false, ())) else (some (false, ()))) else (some (false, ()))) else (some (false, ())))))))) else (bif (Sh.beq S_DecDec x0.2.2.2.2.2.1 ((0 : Int), (0 : Int))) then (cl (p_dz (s0, ((g_dt (x0.2.1, ())).1, ()))) s5 fun y10 => (bif y10.1 then (bif (bif s10 then false else true) then (bif (g_d0 (x0.1, ())).1 then (some (false, ())) else (some (false, ()))) else (some (false, ()))) else (bif (bif s10 then false else true) then (bif (g_d0 (x0.1, ())).1 then (some (false, ())) else (some (false, ()))) else (some (false, ()))))) else (cl (p_dz (s1, ((g_dt (x0.2.1, ())).1, ()))) s6 fun y11 => (bif y11.1 then (cl (p_dz (s0, ((g_dt (x0.2.1, ())).1, ()))) s5 fun y12 => (bif y12.1 then (bif (bif s10 then false else true) then (bif (g_d0 (x0.1, ())).1 then (some (false, ())) else (some (false, ()))) else (some (false, ()))) else (bif (bif s10 then false else true) then (bif (g_d0 (x0.1, ())).1 then (some (false, ())) else (some (false, ()))) else (some (false, ()))))) else (cl (p_dz (s0, ((g_dt (x0.2.1, ())).1, ()))) s5 fun y13 => (bif y13.1 then (bif (bif s10 then false else true) then (bif (g_d0 (x0.1, ())).1 then (some (false, ())) else (some (false, ()))) else (some (false, ()))) else (bif (bif s10 then false else true) then (bif (g_d0 (x0.1, ())).1 then (some (false, ())) else (some (false, ()))) else (some (false, ()))))))))))) else (cl (p_dz (s3, ((g_dt (x0.2.1, ())).1, ()))) (g_dz (s3, ((g_dt (x0.2.1, ())).1, ()))) fun y14 => (bif y14.1 then (bif (decide (x0.2.2.2.2.1 = (0 : Int))) then (bif (Sh.beq S_DecDec x0.2.2.2.2.2.1 ((0 : Int), (0 : Int))) then (cl (p_dz (s0, ((g_dt (x0.2.1, ())).1, ()))) s5 fun y15 => (bif y15.1 then (bif (bif s10 then false else true) then (bif (g_d0 (x0.1, ())).1 then (bif s4.1 then (bif (g_cc (x0.2.2.2.1, ())).1 then (some (y0.1, ())) else (some (false, ()))) else (some (false, ()))) else (some (false, ()))) else (some (false, ()))) else (bif (bif s10 then false else true) then (bif (g_d0 (x0.1, ())).1 then (bif s4.1 then (bif (decide (x0.2.2.2.1 = (0 : Int))) then (some (y0.1, ())) else (some (false, ()))) else (some (false, ()))) else (some (false, ()))) else (some (false, ()))))) else (cl (p_dz (s1, ((g_dt (x0.2.1, ())).1, ()))) s6 fun y16 => (bif y16.1 then (cl (p_dz (s0, ((g_dt (x0.2.1, ())).1, ()))) s5 fun y17 => (bif y17.1 then (bif (bif s10 then false else true) then (bif (g_d0 (x0.1, ())).1 then (bif s4.1 then (bif (g_ce (x0.2.2.2.2.2.1, ())).1 then (bif (g_cc (x0.2.2.2.1, ())).1 then (some (y0.1, ())) else (some (false, ()))) else (some (false, ()))) else (some (false, ()))) else (some (false, ()))) else (some (false, ()))) else (bif (bif s10 then false else true) then (bif (g_d0 (x0.1, ())).1 then (bif s4.1 then (bif (g_ce (x0.2.2.2.2.2.1, ())).1 then (bif (decide (x0.2.2.2.1 = (0 : Int))) then (some (y0.1, ())) else (some (false, ()))) else (some (false, ()))) else (some (false, ()))) else (some (false, ()))) else (some (false, ()))))) else (cl (p_dz (s0, ((g_dt (x0.2.1, ())).1, ()))) s5 fun y18 => (bif y18.1 then (bif (bif s10 then false else true) then (bif (g_d0 (x0.1, ())).1 then (bif s4.1 then (some (false, ())) else (some (false, ()))) else (some (false, ()))) else (some (false, ()))) else (bif (bif s10 then false else true) then (bif (g_d0 (x0.1, ())).1 then (bif s4.1 then (some (false, ())) else (some (false, ()))) else (some (false, ()))) else (some (false, ())))))))) else (cl (p_dz (s2, ((g_dt (x0.2.1, ())).1, ()))) s7 fun y19 => (bif y19.1 then (bif (Sh.beq S_DecDec x0.2.2.2.2.2.1 ((0 : Int), (0 : Int))) then (cl (p_dz (s0, ((g_dt (x0.2.1, ())).1, ()))) s5 fun y20 => (bif y20.1 then (bif (bif s10 then false else true) then (bif (g_d0 (x0.1, ())).1 then (bif s4.1 then (bif s8.1 then (bif (g_cc (x0.2.2.2.1, ())).1 then (some (y0.1, ())) else (some (false, ()))) else (some (false, ()))) else (some (false, ()))) else (some (false, ()))) else (some (false, ()))) else (bif (bif s10 then false else true) then (bif (g_d0 (x0.1, ())).1 then (bif s4.1 then (bif s8.1 then (bif (decide (x0.2.2.2.1 = (0 : Int))) then (some (y0.1, ())) else (some (false, ()))) else (some (false, ()))) else (some (false, ()))) else (some (false, ()))) else (some (false, ()))))) else (cl (p_dz (s1, ((g_dt (x0.2.1, ())).1, ()))) s6 fun y21 => (bif y21.1 then (cl (p_dz (s0, ((g_dt (x0.2.1, ())).1, ()))) s5 fun y22 => (bif y22.1 then (bif (bif s10 then false else true) then (bif (g_d0 (x0.1, ())).1 then (bif s4.1 then (bif s8.1 then (bif (g_ce (x0.2.2.2.2.2.1, ())).1 then (bif (g_cc (x0.2.2.2.1, ())).1 then (some (y0.1, ())) else (some (false, ()))) else (some (false, ()))) else (some (false, ()))) else (some (false, ()))) else (some (false, ()))) else (some (false, ()))) else (bif (bif s10 then false else true) then (bif (g_d0 (x0.1, ())).1 then (bif s4.1 then (bif s8.1 then (bif (g_ce (x0.2.2.2.2.2.1, ())).1 then (bif (decide (x0.2.2.2.1 = (0 : Int))) then (some (y0.1, ())) else (some (false, ()))) else (some (false, ()))) else (some (false, ()))) else (some (false, ()))) else (some (false, ()))) else (some (false, ()))))) else (cl (p_dz (s0, ((g_dt (x0.2.1, ())).1, ()))) s5 fun y23 => (bif y23.1 then (bif (bif s10 then false else true) then (bif (g_d0 (x0.1, ())).1 then (bif s4.1 then (bif s8.1 then (some (false, ())) else (some (false, ()))) else (some (false, ()))) else (some (false, ()))) else (some (false, ()))) else (bif (bif s10 then false else true) then (bif (g_d0 (x0.1, ())).1 then (bif s4.1 then (bif s8.1 then (some (false, ())) else (some (false, ()))) else (some (false, ()))) else (some (false, ()))) else (some (false, ())))))))) else (bif (Sh.beq S_DecDec x0.2.2.2.2.2.1 ((0 : Int), (0 : Int))) then (cl (p_dz (s0, ((g_dt (x0.2.1, ())).1, ()))) s5 fun y24 => (bif y24.1 then (bif (bif s10 then false else true) then (bif (g_d0 (x0.1, ())).1 then (bif s4.1 then (some (false, ())) else (some (false, ()))) else (some (false, ()))) else (some (false, ()))) else (bif (bif s10 then false else true) then (bif (g_d0 (x0.1, ())).1 then (bif s4.1 then (some (false, ())) else (some (false, ()))) else (some (false, ()))) else (some (false, ()))))) else (cl (p_dz (s1, ((g_dt (x0.2.1, ())).1, ()))) s6 fun y25 => (bif y25.1 then (cl (p_dz (s0, ((g_dt (x0.2.1, ())).1, ()))) s5 fun y26 => (bif y26.1 then (bif (bif s10 then false else true) then (bif (g_d0 (x0.1, ())).1 then (bif s4.1 then (some (false, ())) else (some (false, ()))) else (some (false, ()))) else (some (false, ()))) else (bif (bif s10 then false else true) then (bif (g_d0 (x0.1, ())).1 then (bif s4.1 then (some (false, ())) else (some (false, ()))) else (some (false, ()))) else (some (false, ()))))) else (cl (p_dz (s0, ((g_dt (x0.2.1, ())).1, ()))) s5 fun y27 => (bif y27.1 then (bif (bif s10 then false else true) then (bif (g_d0 (x0.1, ())).1 then (bif s4.1 then (some (false, ())) else (some (false, ()))) else (some (false, ()))) else (some (false, ()))) else (bif (bif s10 then false else true) then (bif (g_d0 (x0.1, ())).1 then (bif s4.1 then (some (false, ())) else (some (false, ()))) else (some (false, ()))) else (some (false, ()))))))))))) else (bif (decide (x0.2.2.2.2.1 = (0 : Int))) then (bif (Sh.beq S_DecDec x0.2.2.2.2.2.1 ((0 : Int), (0 : Int))) then (cl (p_dz (s0, ((g_dt (x0.2.1, ())).1, ()))) s5 fun y28 => (bif y28.1 then (bif (bif s10 then false else true) then (bif (g_d0 (x0.1, ())).1 then (some (false, ())) else (some (false, ()))) else (some (false, ()))) else (bif (bif s10 then false else true) then (bif (g_d0 (x0.1, ())).1 then (some (false, ())) else (some (false, ()))) else (some (false, ()))))) else (cl (p_dz (s1, ((g_dt (x0.2.1, ())).1, ()))) s6 fun y29 => (bif y29.1 then (cl (p_dz (s0, ((g_dt (x0.2.1, ())).1, ()))) s5 fun y30 => (bif y30.1 then (bif (bif s10 then false else true) then (bif (g_d0 (x0.1, ())).1 then (some (false, ())) else (some (false, ()))) else (some (false, ()))) else (bif (bif s10 then false else true) then (bif (g_d0 (x0.1, ())).1 then (some (false, ())) else (some (false, ()))) else (some (false, ()))))) else (cl (p_dz (s0, ((g_dt (x0.2.1, ())).1, ()))) s5 fun y31 => (bif y31.1 then (bif (bif s10 then false else true) then (bif (g_d0 (x0.1, ())).1 then (some (false, ())) else (some (false, ()))) else (some (false, ()))) else (bif (bif s10 then false else true) then (bif (g_d0 (x0.1, ())).1 then (some (false, ())) else (some (false, ()))) else (some (false, ())))))))) else (cl (p_dz (s2, ((g_dt (x0.2.1, ())).1, ()))) s7 fun y32 => (bif y32.1 then (bif (Sh.beq S_DecDec x0.2.2.2.2.2.1 ((0 : Int), (0 : Int))) then (cl (p_dz (s0, ((g_dt (x0.2.1, ())).1, ()))) s5 fun y33 => (bif y33.1 then (bif (bif s10 then false else true) then (bif (g_d0 (x0.1, ())).1 then (some (false, ())) else (some (false, ()))) else (some (false, ()))) else (bif (bif s10 then false else true) then (bif (g_d0 (x0.1, ())).1 then (some (false, ())) else (some (false, ()))) else (some (false, ()))))) else (cl (p_dz (s1, ((g_dt (x0.2.1, ())).1, ()))) s6 fun y34 => (bif y34.1 then (cl (p_dz (s0, ((g_dt (x0.2.1, ())).1, ()))) s5 fun y35 => (bif y35.1 then (bif (bif s10 then false else true) then (bif (g_d0 (x0.1, ())).1 then (some (false, ())) else (some (false, ()))) else (some (false, ()))) else (bif (bif s10 then false else true) then (bif (g_d0 (x0.1, ())).1 then (some (false, ())) else (some (false, ()))) else (some (false, ()))))) else (cl (p_dz (s0, ((g_dt (x0.2.1, ())).1, ()))) s5 fun y36 => (bif y36.1 then (bif (bif s10 then false else true) then (bif (g_d0 (x0.1, ())).1 then (some (false, ())) else (some (false, ()))) else (some (false, ()))) else (bif (bif s10 then false else true) then (bif (g_d0 (x0.1, ())).1 then (some (false, ())) else (some (false, ()))) else (some (false, ())))))))) else (bif (Sh.beq S_DecDec x0.2.2.2.2.2.1 ((0 : Int), (0 : Int))) then (cl (p_dz (s0, ((g_dt (x0.2.1, ())).1, ()))) s5 fun y37 => (bif y37.1 then (bif (bif s10 then false else true) then (bif (g_d0 (x0.1, ())).1 then (some (false, ())) else (some (false, ()))) else (some (false, ()))) else (bif (bif s10 then false else true) then (bif (g_d0 (x0.1, ())).1 then (some (false, ())) else (some (false, ()))) else (some (false, ()))))) else (cl (p_dz (s1, ((g_dt (x0.2.1, ())).1, ()))) s6 fun y38 => (bif y38.1 then (cl (p_dz (s0, ((g_dt (x0.2.1, ())).1, ()))) s5 fun y39 => (bif y39.1 then (bif (bif s10 then false else true) then (bif (g_d0 (x0.1, ())).1 then (some (false, ())) else (some (false, ()))) else (some (false, ()))) else (bif (bif s10 then false else true) then (bif (g_d0 (x0.1, ())).1 then (some (false, ())) else (some (false, ()))) else (some (false, ()))))) else (cl (p_dz (s0, ((g_dt (x0.2.1, ())).1, ()))) s5 fun y40 => (bif y40.1 then (bif (bif s10 then false else true) then (bif (g_d0 (x0.1, ())).1 then (some (false, ())) else (some (false, ()))) else (some (false, ()))) else (bif (bif s10 then false else true) then (bif (g_d0 (x0.1, ())).1 then (some (false, ())) else (some (false, ()))) else (some (false, ()))))))))))))))) else (bif (decide (x0.2.2.1 = (0 : Int))) then (bif (decide (x0.2.2.2.2.1 = (0 : Int))) then (bif (Sh.beq S_DecDec x0.2.2.2.2.2.1 ((0 : Int), (0 : Int))) then (cl (p_dz (s0, ((g_dt (x0.2.1, ())).1, ()))) s5 fun y41 => (bif y41.1 then (bif (bif s10 then false else true) then (bif (g_d0 (x0.1, ())).1 then (bif (g_cc (x0.2.2.2.1, ())).1 then (some (s9, ())) else (some (false, ()))) else (some (false, ()))) else (some (false, ()))) else (bif (bif s10 then false else true) then (bif (g_d0 (x0.1, ())).1 then (bif (decide (x0.2.2.2.1 = (0 : Int))) then (some (s9, ())) else (some (false, ()))) else (some (false, ()))) else (some (false, ()))))) else (cl (p_dz (s1, ((g_dt (x0.2.1, ())).1, ()))) s6 fun y42 => (bif y42.1 then (cl (p_dz (s0, ((g_dt (x0.2.1, ())).1, ()))) s5 fun y43 => (bif y43.1 then (bif (bif s10 then false else true) then (bif (g_d0 (x0.1, ())).1 then (bif (g_ce (x0.2.2.2.2.2.1, ())).1 then (bif (g_cc (x0.2.2.2.1, ())).1 then (some (s9, ())) else (some (false, ()))) else (some (false, ()))) else (some (false, ()))) else (some (false, ()))) else (bif (bif s10 then false else true) then (bif (g_d0 (x0.1, ())).1 then (bif (g_ce (x0.2.2.2.2.2.1, ())).1 then (bif (decide (x0.2.2.2.1 = (0 : Int))) then (some (s9, ())) else (some (false, ()))) else (some (false, ()))) else (some (false, ()))) else (some (false, ()))))) else (cl (p_dz (s0, ((g_dt (x0.2.1, ())).1, ()))) s5 fun y44 => (bif y44.1 then (bif (bif s10 then false else true) then (bif (g_d0 (x0.1, ())).1 then (some (false, ())) else (some (false, ()))) else (some (false, ()))) else (bif (bif s10 then false else true) then (bif (g_d0 (x0.1, ())).1 then (some (false, ())) else (some (false, ()))) else (some (false, ())))))))) else (cl (p_dz (s2, ((g_dt (x0.2.1, ())).1, ()))) s7 fun y45 => (bif y45.1 then (bif (Sh.beq S_DecDec x0.2.2.2.2.2.1 ((0 : Int), (0 : Int))) then (cl (p_dz (s0, ((g_dt (x0.2.1, ())).1, ()))) s5 fun y46 => (bif y46.1 then (bif (bif s10 then false else true) then (bif (g_d0 (x0.1, ())).1 then (bif s8.1 then (bif (g_cc (x0.2.2.2.1, ())).1 then (some (s9, ())) else (some (false, ()))) else (some (false, ()))) else (some (false, ()))) else (some (false, ()))) else (bif (bif s10 then false else true) then (bif (g_d0 (x0.1, ())).1 then (bif s8.1 then (bif (decide (x0.2.2.2.1 = (0 : Int))) then (some (s9, ())) else (some (false, ()))) else (some (false, ()))) else (some (false, ()))) else (some (false, ()))))) else (cl (p_dz (s1, ((g_dt (x0.2.1, ())).1, ()))) s6 fun y47 => (bif y47.1 then (cl (p_dz (s0, ((g_dt (x0.2.1, ())).1, ()))) s5 fun y48 => (bif y48.1 then (bif (bif s10 then false else true) then (bif (g_d0 (x0.1, ())).1 then (bif s8.1 then (bif (g_ce (x0.2.2.2.2.2.1, ())).1 then (bif (g_cc (x0.2.2.2.1, ())).1 then (some (s9, ())) else (some (false, ()))) else (some (false, ()))) else (some (false, ()))) else (some (false, ()))) else (some (false, ()))) else (bif (bif s10 then false else true) then (bif (g_d0 (x0.1, ())).1 then (bif s8.1 then (bif (g_ce (x0.2.2.2.2.2.1, ())).1 then (bif (decide (x0.2.2.2.1 = (0 : Int))) then (some (s9, ())) else (some (false, ()))) else (some (false, ()))) else (some (false, ()))) else (some (false, ()))) else (some (false, ()))))) else (cl (p_dz (s0, ((g_dt (x0.2.1, ())).1, ()))) s5 fun y49 => (bif y49.1 then (bif (bif s10 then false else true) then (bif (g_d0 (x0.1, ())).1 then (bif s8.1 then (some (false, ())) else (some (false, ()))) else (some (false, ()))) else (some (false, ()))) else (bif (bif s10 then false else true) then (bif (g_d0 (x0.1, ())).1 then (bif s8.1 then (some (false, ())) else (some (false, ()))) else (some (false, ()))) else (some (false, ())))))))) else (bif (Sh.beq S_DecDec x0.2.2.2.2.2.1 ((0 : Int), (0 : Int))) then (cl (p_dz (s0, ((g_dt (x0.2.1, ())).1, ()))) s5 fun y50 => (bif y50.1 then (bif (bif s10 then false else true) then (bif (g_d0 (x0.1, ())).1 then (some (false, ())) else (some (false, ()))) else (some (false, ()))) else (bif (bif s10 then false else true) then (bif (g_d0 (x0.1, ())).1 then (some (false, ())) else (some (false, ()))) else (some (false, ()))))) else (cl (p_dz (s1, ((g_dt (x0.2.1, ())).1, ()))) s6 fun y51 => (bif y51.1 then (cl (p_dz (s0, ((g_dt (x0.2.1, ())).1, ()))) s5 fun y52 => (bif y52.1 then (bif (bif s10 then false else true) then (bif (g_d0 (x0.1, ())).1 then (some (false, ())) else (some (false, ()))) else (some (false, ()))) else (bif (bif s10 then false else true) then (bif (g_d0 (x0.1, ())).1 then (some (false, ())) else (some (false, ()))) else (some (false, ()))))) else (cl (p_dz (s0, ((g_dt (x0.2.1, ())).1, ()))) s5 fun y53 => (bif y53.1 then (bif (bif s10 then false else true) then (bif (g_d0 (x0.1, ())).1 then (some (false, ())) else (some (false, ()))) else (some (false, ()))) else (bif (bif s10 then false else true) then (bif (g_d0 (x0.1, ())).1 then (some (false, ())) else (some (false, ()))) else (some (false, ()))))))))))) else (cl (p_dz (s3, ((g_dt (x0.2.1, ())).1, ()))) (g_dz (s3, ((g_dt (x0.2.1, ())).1, ()))) fun y54 => (bif y54.1 then (bif (decide (x0.2.2.2.2.1 = (0 : Int))) then (bif (Sh.beq S_DecDec x0.2.2.2.2.2.1 ((0 : Int), (0 : Int))) then (cl (p_dz (s0, ((g_dt (x0.2.1, ())).1, ()))) s5 fun y55 => (bif y55.1 then (bif (bif s10 then false else true) then (bif (g_d0 (x0.1, ())).1 then (bif s4.1 then (bif (g_cc (x0.2.2.2.1, ())).1 then (some (s9, ())) else (some (false, ()))) else (some (false, ()))) else (some (false, ()))) else (some (false, ()))) else (bif (bif s10 then false else true) then (bif (g_d0 (x0.1, ())).1 then (bif s4.1 then (bif (decide (x0.2.2.2.1 = (0 : Int))) then (some (s9, ())) else (some (false, ()))) else (some (false, ()))) else (some (false, ()))) else (some (false, ()))))) else (cl (p_dz (s1, ((g_dt (x0.2.1, ())).1, ()))) s6 fun y56 => (bif y56.1 then (cl (p_dz (s0, ((g_dt (x0.2.1, ())).1, ()))) s5 fun y57 => (bif y57.1 then (bif (bif s10 then false else true) then (bif (g_d0 (x0.1, ())).1 then (bif s4.1 then (bif (g_ce (x0.2.2.2.2.2.1, ())).1 then (bif (g_cc (x0.2.2.2.1, ())).1 then (some (s9, ())) else (some (false, ()))) else (some (false, ()))) else (some (false, ()))) else (some (false, ()))) else (some (false, ()))) else (bif (bif s10 then false else true) then (bif (g_d0 (x0.1, ())).1 then (bif s4.1 then (bif (g_ce (x0.2.2.2.2.2.1, ())).1 then (bif (decide (x0.2.2.2.1 = (0 : Int))) then (some (s9, ())) else (some (false, ()))) else (some (false, ()))) else (some (false, ()))) else (some (false, ()))) else (some (false, ()))))) else (cl (p_dz (s0, ((g_dt (x0.2.1, ())).1, ()))) s5 fun y58 => (bif y58.1 then (bif (bif s10 then false else true) then (bif (g_d0 (x0.1, ())).1 then (bif s4.1 then (some (false, ())) else (some (false, ()))) else (some (false, ()))) else (some (false, ()))) else (bif (bif s10 then false else true) then (bif (g_d0 (x0.1, ())).1 then (bif s4.1 then (some (false, ())) else (some (false, ()))) else (some (false, ()))) else (some (false, ())))))))) else (cl (p_dz (s2, ((g_dt (x0.2.1, ())).1, ()))) s7 fun y59 => (bif y59.1 then (bif (Sh.beq S_DecDec x0.2.2.2.2.2.1 ((0 : Int), (0 : Int))) then (cl (p_dz (s0, ((g_dt (x0.2.1, ())).1, ()))) s5 fun y60 => (bif y60.1 then (bif (bif s10 then false else true) then (bif (g_d0 (x0.1, ())).1 then (bif s4.1 then (bif s8.1 then (bif (g_cc (x0.2.2.2.1, ())).1 then (some (s9, ())) else (some (false, ()))) else (some (false, ()))) else (some (false, ()))) else (some (false, ()))) else (some (false, ()))) else (bif (bif s10 then false else true) then (bif (g_d0 (x0.1, ())).1 then (bif s4.1 then (bif s8.1 then (bif (decide (x0.2.2.2.1 = (0 : Int))) then (some (s9, ())) else (some (false, ()))) else (some (false, ()))) else (some (false, ()))) else (some (false, ()))) else (some (false, ()))))) else (cl (p_dz (s1, ((g_dt (x0.2.1, ())).1, ()))) s6 fun y61 => (bif y61.1 then (cl (p_dz (s0, ((g_dt (x0.2.1, ())).1, ()))) s5 fun y62 => (bif y62.1 then (bif (bif s10 then false else true) then (bif (g_d0 (x0.1, ())).1 then (bif s4.1 then (bif s8.1 then (bif (g_ce (x0.2.2.2.2.2.1, ())).1 then (bif (g_cc (x0.2.2.2.1, ())).1 then (some (s9, ())) else (some (false, ()))) else (some (false, ()))) else (some (false, ()))) else (some (false, ()))) else (some (false, ()))) else (some (false, ()))) else (bif (bif s10 then false else true) then (bif (g_d0 (x0.1, ())).1 then (bif s4.1 then (bif s8.1 then (bif (g_ce (x0.2.2.2.2.2.1, ())).1 then (bif (decide (x0.2.2.2.1 = (0 : Int))) then (some (s9, ())) else (some (false, ()))) else (some (false, ()))) else (some (false, ()))) else (some (false, ()))) else (some (false, ()))) else (some (false, ()))))) else (cl (p_dz (s0, ((g_dt (x0.2.1, ())).1, ()))) s5 fun y63 => (bif y63.1 then (bif (bif s10 then false else true) then (bif (g_d0 (x0.1, ())).1 then (bif s4.1 then (bif s8.1 then (some (false, ())) else (some (false, ()))) else (some (false, ()))) else (some (false, ()))) else (some (false, ()))) else (bif (bif s10 then false else true) then (bif (g_d0 (x0.1, ())).1 then (bif s4.1 then (bif s8.1 then (some (false, ())) else (some (false, ()))) else (some (false, ()))) else (some (false, ()))) else (some (false, ())))))))) else (bif (Sh.beq S_DecDec x0.2.2.2.2.2.1 ((0 : Int), (0 : Int))) then (cl (p_dz (s0, ((g_dt (x0.2.1, ())).1, ()))) s5 fun y64 => (bif y64.1 then (bif (bif s10 then false else true) then (bif (g_d0 (x0.1, ())).1 then (bif s4.1 then (some (false, ())) else (some (false, ()))) else (some (false, ()))) else (some (false, ()))) else (bif (bif s10 then false else true) then (bif (g_d0 (x0.1, ())).1 then (bif s4.1 then (some (false, ())) else (some (false, ()))) else (some (false, ()))) else (some (false, ()))))) else (cl (p_dz (s1, ((g_dt (x0.2.1, ())).1, ()))) s6 fun y65 => (bif y65.1 then (cl (p_dz (s0, ((g_dt (x0.2.1, ())).1, ()))) s5 fun y66 => (bif y66.1 then (bif (bif s10 then false else true) then (bif (g_d0 (x0.1, ())).1 then (bif s4.1 then (some (false, ())) else (some (false, ()))) else (some (false, ()))) else (some (false, ()))) else (bif (bif s10 then false else true) then (bif (g_d0 (x0.1, ())).1 then (bif s4.1 then (some (false, ())) else (some (false, ()))) else (some (false, ()))) else (some (false, ()))))) else (cl (p_dz (s0, ((g_dt (x0.2.1, ())).1, ()))) s5 fun y67 => (bif y67.1 then (bif (bif s10 then false else true) then (bif (g_d0 (x0.1, ())).1 then (bif s4.1 then (some (false, ())) else (some (false, ()))) else (some (false, ()))) else (some (false, ()))) else (bif (bif s10 then false else true) then (bif (g_d0 (x0.1, ())).1 then (bif s4.1 then (some (false, ())) else (some (false, ()))) else (some (false, ()))) else (some (false, ()))))))))))) else (bif (decide (x0.2.2.2.2.1 = (0 : Int))) then (bif (Sh.beq S_DecDec x0.2.2.2.2.2.1 ((0 : Int), (0 : Int))) then (cl (p_dz (s0, ((g_dt (x0.2.1, ())).1, ()))) s5 fun y68 => (bif y68.1 then (bif (bif s10 then false else true) then (bif (g_d0 (x0.1, ())).1 then (some (false, ())) else (some (false, ()))) else (some (false, ()))) else (bif (bif s10 then false else true) then (bif (g_d0 (x0.1, ())).1 then (some (false, ())) else (some (false, ()))) else (some (false, ()))))) else (cl (p_dz (s1, ((g_dt (x0.2.1, ())).1, ()))) s6 fun y69 => (bif y69.1 then (cl (p_dz (s0, ((g_dt (x0.2.1, ())).1, ()))) s5 fun y70 => (bif y70.1 then (bif (bif s10 then false else true) then (bif (g_d0 (x0.1, ())).1 then (some (false, ())) else (some (false, ()))) else (some (false, ()))) else (bif (bif s10 then false else true) then (bif (g_d0 (x0.1, ())).1 then (some (false, ())) else (some (false, ()))) else (some (false, ()))))) else (cl (p_dz (s0, ((g_dt (x0.2.1, ())).1, ()))) s5 fun y71 => (bif y71.1 then (bif (bif s10 then false else true) then (bif (g_d0 (x0.1, ())).1 then (some (false, ())) else (some (false, ()))) else (some (false, ()))) else (bif (bif s10 then false else true) then (bif (g_d0 (x0.1, ())).1 then (some (false, ())) else (some (false, ()))) else (some (false, ())))))))) else (cl (p_dz (s2, ((g_dt (x0.2.1, ())).1, ()))) s7 fun y72 => (bif y72.1 then (bif (Sh.beq S_DecDec x0.2.2.2.2.2.1 ((0 : Int), (0 : Int))) then (cl (p_dz (s0, ((g_dt (x0.2.1, ())).1, ()))) s5 fun y73 => (bif y73.1 then (bif (bif s10 then false else true) then (bif (g_d0 (x0.1, ())).1 then (some (false, ())) else (some (false, ()))) else (some (false, ()))) else (bif (bif s10 then false else true) then (bif (g_d0 (x0.1, ())).1 then (some (false, ())) else (some (false, ()))) else (some (false, ()))))) else (cl (p_dz (s1, ((g_dt (x0.2.1, ())).1, ()))) s6 fun y74 => (bif y74.1 then (cl (p_dz (s0, ((g_dt (x0.2.1, ())).1, ()))) s5 fun y75 => (bif y75.1 then (bif (bif s10 then false else true) then (bif (g_d0 (x0.1, ())).1 then (some (false, ())) else (some (false, ()))) else (some (false, ()))) else (bif (bif s10 then false else true) then (bif (g_d0 (x0.1, ())).1 then (some (false, ())) else (some (false, ()))) else (some (false, ()))))) else (cl (p_dz (s0, ((g_dt (x0.2.1, ())).1, ()))) s5 fun y76 => (bif y76.1 then (bif (bif s10 then false else true) then (bif (g_d0 (x0.1, ())).1 then (some (false, ())) else (some (false, ()))) else (some (false, ()))) else (bif (bif s10 then false else true) then (bif (g_d0 (x0.1, ())).1 then (some (false, ())) else (some (false, ()))) else (some (false, ())))))))) else (bif (Sh.beq S_DecDec x0.2.2.2.2.2.1 ((0 : Int), (0 : Int))) then (cl (p_dz (s0, ((g_dt (x0.2.1, ())).1, ()))) s5 fun y77 => (bif y77.1 then (bif (bif s10 then false else true) then (bif (g_d0 (x0.1, ())).1 then (some (false, ())) else (some (false, ()))) else (some (false, ()))) else (bif (bif s10 then false else true) then (bif (g_d0 (x0.1, ())).1 then (some (false, ())) else (some (false, ()))) else (some (false, ()))))) else (cl (p_dz (s1, ((g_dt (x0.2.1, ())).1, ()))) s6 fun y78 => (bif y78.1 then (cl (p_dz (s0, ((g_dt (x0.2.1, ())).1, ()))) s5 fun y79 => (bif y79.1 then (bif (bif s10 then false else true) then (bif (g_d0 (x0.1, ())).1 then (some (false, ())) else (some (false, ()))) else (some (false, ()))) else (bif (bif s10 then false else true) then (bif (g_d0 (x0.1, ())).1 then (some (false, ())) else (some (false, ()))) else (some (false, ()))))) else (cl (p_dz (s0, ((g_dt (x0.2.1, ())).1, ()))) s5 fun y80 => (bif y80.1 then (bif (bif s10 then false else true) then (bif (g_d0 (x0.1, ())).1 then (some (false, ())) else (some (false, ()))) else (some (false, ()))) else (bif (bif s10 then false else true) then (bif (g_d0 (x0.1, ())).1 then (some (false, ())) else (some (false, ()))) else (some (false, ())))))))))))))))))))))))))) := by kernel_rfl
theorem S_e0 (h_dt : C_dt (fun _ => true) g_dt) (h_cl : C_cl p_cl g_cl) (h_dz : C_dz p_dz g_dz) (h_iin : C_iin (fun _ => true) g_iin) (h_ce : C_ce (fun _ => true) g_ce) (h_cc : C_cc (fun _ => true) g_cc) (h_d0 : C_d0 (fun _ => true) g_d0) {pre : In_e0 -> Bool} {fn : In_e0 -> Out_e0} (hev : ∀ x, pre x = true -> ∃ k, E_e0 g_dt g_cl p_cl g_dz p_dz g_iin g_ce g_cc g_d0 k x = some (fn x)) : C_e0 pre fn := sound tysOk mixed (fn := Tryz.f11) rfl rfl rfl (.cons h_dt (.cons h_cl (.cons h_dz (.cons h_iin (.cons h_ce (.cons h_cc (.cons h_d0 .nil))))))) _ hev
end
/-! e1: gClone_int -/
abbrev M_e1 : List Vm.Mode := [.imm L_int]
abbrev R_e1 : List (RK × Sh) := [(.own, L_int)]
abbrev In_e1 : Type := (insSh M_e1).den
abbrev Out_e1 : Type := (outSh R_e1 M_e1).den
abbrev C_e1 (pre : In_e1 -> Bool) (fn : In_e1 -> Out_e1) : Prop := Sound Tryz.prog 85 ⟨M_e1, R_e1, pre, fn⟩
abbrev X_e1 : Ctx := ctx tys 8 (conOf []) (keepOf []) (fun _ => [])
noncomputable abbrev E_e1 (k : Nat) (x : In_e1) : Option Out_e1 := evFn X_e1 Tryz.f85 R_e1 M_e1 k x
theorem ev_e1 (k : Nat) (x0 : Dm (.imm L_int)) : E_e1 k (x0, ()) =
  (bif (List.isEmpty x0) then (agree (some ([], ())) (bif (fitL [] x0) then (some ((List.append [] x0), ())) else none)) else (bif (fitL [] x0) then (some ((List.append [] x0), ())) else none)) := by kernel_rfl
theorem S_e1  {pre : In_e1 -> Bool} {fn : In_e1 -> Out_e1} (hev : ∀ x, pre x = true -> ∃ k, E_e1 k x = some (fn x)) : C_e1 pre fn := sound tysOk mixed (fn := Tryz.f85) rfl rfl rfl ConsOk.nil _ hev
/-! e2: gClone_SpcTest -/
abbrev M_e2 : List Vm.Mode := [.imm L_SpcTest]
abbrev R_e2 : List (RK × Sh) := [(.own, L_SpcTest)]
abbrev In_e2 : Type := (insSh M_e2).den
abbrev Out_e2 : Type := (outSh R_e2 M_e2).den
abbrev C_e2 (pre : In_e2 -> Bool) (fn : In_e2 -> Out_e2) : Prop := Sound Tryz.prog 146 ⟨M_e2, R_e2, pre, fn⟩
abbrev X_e2 : Ctx := ctx tys 8 (conOf []) (keepOf []) (fun _ => [])
noncomputable abbrev E_e2 (k : Nat) (x : In_e2) : Option Out_e2 := evFn X_e2 Tryz.f146 R_e2 M_e2 k x
theorem ev_e2 (k : Nat) (x0 : Dm (.imm L_SpcTest)) : E_e2 k (x0, ()) =
  (bif (List.isEmpty x0) then (agree (some ([], ())) (bif (fitL [] x0) then (some ((List.append [] x0), ())) else none)) else (bif (fitL [] x0) then (some ((List.append [] x0), ())) else none)) := by kernel_rfl
theorem S_e2  {pre : In_e2 -> Bool} {fn : In_e2 -> Out_e2} (hev : ∀ x, pre x = true -> ∃ k, E_e2 k x = some (fn x)) : C_e2 pre fn := sound tysOk mixed (fn := Tryz.f146) rfl rfl rfl ConsOk.nil _ hev
/-! e3: ispecs -/
abbrev M_e3 : List Vm.Mode := [.imm L_SpcSpec]
abbrev R_e3 : List (RK × Sh) := [(.own, L_SpcSpec)]
abbrev In_e3 : Type := (insSh M_e3).den
abbrev Out_e3 : Type := (outSh R_e3 M_e3).den
abbrev C_e3 (pre : In_e3 -> Bool) (fn : In_e3 -> Out_e3) : Prop := Sound Tryz.prog 86 ⟨M_e3, R_e3, pre, fn⟩
section
variable (g_e2 : In_e2 -> Out_e2) (p_e2 : In_e2 -> Bool)
abbrev X_e3 : Ctx := ctx tys 23 (conOf [(146, ⟨M_e2, R_e2, p_e2, g_e2⟩)]) (keepOf [(pt0, (⟨[(3, .own), (6, .asis), (7, .asis), (8, .asis)], [], []⟩ : Keep))]) (fun _ => [])
noncomputable abbrev E_e3 (k : Nat) (x : In_e3) : Option Out_e3 := evFn (X_e3 g_e2 p_e2) Tryz.f86 R_e3 M_e3 k x
def h0_e3 (x0 : Dm (.imm L_SpcSpec)) (h0 : Dn I) (h1 : Dn I) (h2 : (List (Dn S_SpcSpec))) : St := mkS [(3, (AV.sref 2503 none [])), (6, (AV.val L_SpcSpec x0)), (7, (AV.val I h0)), (8, (AV.val I h1))] [(2503, (Ob.arr 131 S_SpcSpec h2))]
noncomputable def r_e3 (x : In_e3) (k : Nat) (p : List Bool) (s : St) : Option Out_e3 := rounds (X_e3 g_e2 p_e2) Tryz.f86 R_e3 M_e3 x k p s
variable {g_e2 p_e2}
theorem ev_e3 (k : Nat) (x0 : Dm (.imm L_SpcSpec)) : E_e3 g_e2 p_e2 k (x0, ()) =
  (r_e3 g_e2 p_e2 (x0, ()) k pt0 (h0_e3 x0 (List.length x0 : Int) (0 : Int) [])) := by kernel_rfl
theorem rd0_e3 (k : Nat) (x0 : Dm (.imm L_SpcSpec)) (h0 : Dn I) (h1 : Dn I) (h2 : (List (Dn S_SpcSpec))) : r_e3 g_e2 p_e2 (x0, ()) (k + 1) pt0 (h0_e3 x0 h0 h1 h2) =
  (bif (decide (h1 < h0)) then (bif (bif (decide ((0 : Int) <= h1)) then (decide (h1 < (List.length x0 : Int))) else false) then (bif (p_e2 ((rdL (e := S_SpcSpec) x0 h1).1, ())) then (bif (fitL h2 [((g_e2 ((rdL (e := S_SpcSpec) x0 h1).1, ())).1, (rdL (e := S_SpcSpec) x0 h1).2)]) then (r_e3 g_e2 p_e2 (x0, ()) k pt0 (h0_e3 x0 h0 (w64 (h1 + (1 : Int))) (List.append h2 [((g_e2 ((rdL (e := S_SpcSpec) x0 h1).1, ())).1, (rdL (e := S_SpcSpec) x0 h1).2)]))) else none) else none) else none) else (some (h2, ()))) := by kernel_rfl
theorem S_e3 (h_e2 : C_e2 p_e2 g_e2) {pre : In_e3 -> Bool} {fn : In_e3 -> Out_e3} (hev : ∀ x, pre x = true -> ∃ k, E_e3 g_e2 p_e2 k x = some (fn x)) : C_e3 pre fn := sound tysOk mixed (fn := Tryz.f86) rfl rfl rfl (.cons h_e2 .nil) _ hev
end
/-! e4: gClone_DecDec -/
abbrev M_e4 : List Vm.Mode := [.imm L_DecDec]
abbrev R_e4 : List (RK × Sh) := [(.own, L_DecDec)]
abbrev In_e4 : Type := (insSh M_e4).den
abbrev Out_e4 : Type := (outSh R_e4 M_e4).den
abbrev C_e4 (pre : In_e4 -> Bool) (fn : In_e4 -> Out_e4) : Prop := Sound Tryz.prog 195 ⟨M_e4, R_e4, pre, fn⟩
abbrev X_e4 : Ctx := ctx tys 8 (conOf []) (keepOf []) (fun _ => [])
noncomputable abbrev E_e4 (k : Nat) (x : In_e4) : Option Out_e4 := evFn X_e4 Tryz.f195 R_e4 M_e4 k x
theorem ev_e4 (k : Nat) (x0 : Dm (.imm L_DecDec)) : E_e4 k (x0, ()) =
  (bif (List.isEmpty x0) then (agree (some ([], ())) (bif (fitL [] x0) then (some ((List.append [] x0), ())) else none)) else (bif (fitL [] x0) then (some ((List.append [] x0), ())) else none)) := by kernel_rfl
theorem S_e4  {pre : In_e4 -> Bool} {fn : In_e4 -> Out_e4} (hev : ∀ x, pre x = true -> ∃ k, E_e4 k x = some (fn x)) : C_e4 pre fn := sound tysOk mixed (fn := Tryz.f195) rfl rfl rfl ConsOk.nil _ hev
/-! e5: iTstTest_copied -/
abbrev M_e5 : List Vm.Mode := [.imm S_TstTest]
abbrev R_e5 : List (RK × Sh) := [(.own, S_TstTest)]
abbrev In_e5 : Type := (insSh M_e5).den
abbrev Out_e5 : Type := (outSh R_e5 M_e5).den
abbrev C_e5 (pre : In_e5 -> Bool) (fn : In_e5 -> Out_e5) : Prop := Sound Tryz.prog 147 ⟨M_e5, R_e5, pre, fn⟩
section
variable (g_e4 : In_e4 -> Out_e4) (p_e4 : In_e4 -> Bool)
abbrev X_e5 : Ctx := ctx tys 8 (conOf [(195, ⟨M_e4, R_e4, p_e4, g_e4⟩)]) (keepOf []) (fun _ => [])
noncomputable abbrev E_e5 (k : Nat) (x : In_e5) : Option Out_e5 := evFn (X_e5 g_e4 p_e4) Tryz.f147 R_e5 M_e5 k x
variable {g_e4 p_e4}
theorem ev_e5 (k : Nat) (x0 : Dm (.imm S_TstTest)) : E_e5 g_e4 p_e4 k (x0, ()) =
  (cl (p_e4 (x0.2.2.2.2, ())) (g_e4 (x0.2.2.2.2, ())) fun y0 => (some ((x0.1, (x0.2.1, (x0.2.2.1, (x0.2.2.2.1, y0.1)))), ()))) := by kernel_rfl
theorem S_e5 (h_e4 : C_e4 p_e4 g_e4) {pre : In_e5 -> Bool} {fn : In_e5 -> Out_e5} (hev : ∀ x, pre x = true -> ∃ k, E_e5 g_e4 p_e4 k x = some (fn x)) : C_e5 pre fn := sound tysOk mixed (fn := Tryz.f147) rfl rfl rfl (.cons h_e4 .nil) _ hev
end
/-! e6: gClone_BatSig -/
abbrev M_e6 : List Vm.Mode := [.imm L_BatSig]
abbrev R_e6 : List (RK × Sh) := [(.own, L_BatSig)]
abbrev In_e6 : Type := (insSh M_e6).den
abbrev Out_e6 : Type := (outSh R_e6 M_e6).den
abbrev C_e6 (pre : In_e6 -> Bool) (fn : In_e6 -> Out_e6) : Prop := Sound Tryz.prog 148 ⟨M_e6, R_e6, pre, fn⟩
abbrev X_e6 : Ctx := ctx tys 8 (conOf []) (keepOf []) (fun _ => [])
noncomputable abbrev E_e6 (k : Nat) (x : In_e6) : Option Out_e6 := evFn X_e6 Tryz.f148 R_e6 M_e6 k x
theorem ev_e6 (k : Nat) (x0 : Dm (.imm L_BatSig)) : E_e6 k (x0, ()) =
  (bif (List.isEmpty x0) then (agree (some ([], ())) (bif (fitL [] x0) then (some ((List.append [] x0), ())) else none)) else (bif (fitL [] x0) then (some ((List.append [] x0), ())) else none)) := by kernel_rfl
theorem S_e6  {pre : In_e6 -> Bool} {fn : In_e6 -> Out_e6} (hev : ∀ x, pre x = true -> ∃ k, E_e6 k x = some (fn x)) : C_e6 pre fn := sound tysOk mixed (fn := Tryz.f148) rfl rfl rfl ConsOk.nil _ hev
/-! e7: gClone_bool -/
abbrev M_e7 : List Vm.Mode := [.imm L_bool]
abbrev R_e7 : List (RK × Sh) := [(.own, L_bool)]
abbrev In_e7 : Type := (insSh M_e7).den
abbrev Out_e7 : Type := (outSh R_e7 M_e7).den
abbrev C_e7 (pre : In_e7 -> Bool) (fn : In_e7 -> Out_e7) : Prop := Sound Tryz.prog 149 ⟨M_e7, R_e7, pre, fn⟩
abbrev X_e7 : Ctx := ctx tys 8 (conOf []) (keepOf []) (fun _ => [])
noncomputable abbrev E_e7 (k : Nat) (x : In_e7) : Option Out_e7 := evFn X_e7 Tryz.f149 R_e7 M_e7 k x
theorem ev_e7 (k : Nat) (x0 : Dm (.imm L_bool)) : E_e7 k (x0, ()) =
  (bif (List.isEmpty x0) then (agree (some ([], ())) (bif (fitL [] x0) then (some ((List.append [] x0), ())) else none)) else (bif (fitL [] x0) then (some ((List.append [] x0), ())) else none)) := by kernel_rfl
theorem S_e7  {pre : In_e7 -> Bool} {fn : In_e7 -> Out_e7} (hev : ∀ x, pre x = true -> ∃ k, E_e7 k x = some (fn x)) : C_e7 pre fn := sound tysOk mixed (fn := Tryz.f149) rfl rfl rfl ConsOk.nil _ hev
/-! e8: iBatBatch_copied -/
abbrev M_e8 : List Vm.Mode := [.imm S_BatBatch]
abbrev R_e8 : List (RK × Sh) := [(.own, S_BatBatch)]
abbrev In_e8 : Type := (insSh M_e8).den
abbrev Out_e8 : Type := (outSh R_e8 M_e8).den
abbrev C_e8 (pre : In_e8 -> Bool) (fn : In_e8 -> Out_e8) : Prop := Sound Tryz.prog 87 ⟨M_e8, R_e8, pre, fn⟩
section
variable (g_e5 : In_e5 -> Out_e5) (p_e5 : In_e5 -> Bool) (g_e6 : In_e6 -> Out_e6) (p_e6 : In_e6 -> Bool) (g_e7 : In_e7 -> Out_e7) (p_e7 : In_e7 -> Bool)
abbrev X_e8 : Ctx := ctx tys 30 (conOf [(147, ⟨M_e5, R_e5, p_e5, g_e5⟩), (148, ⟨M_e6, R_e6, p_e6, g_e6⟩), (149, ⟨M_e7, R_e7, p_e7, g_e7⟩)]) (keepOf [(pt0, (⟨[(1, .asis), (2, .asis), (3, .own), (7, .asis), (8, .asis), (9, .asis)], [(1, .asis), (2, (.pair .asis (.pair .asis (.pair .own (.pair .asis (.pair .own .own))))))], []⟩ : Keep))]) (fun _ => [])
noncomputable abbrev E_e8 (k : Nat) (x : In_e8) : Option Out_e8 := evFn (X_e8 g_e5 p_e5 g_e6 p_e6 g_e7 p_e7) Tryz.f87 R_e8 M_e8 k x
def h0_e8 (x0 : Dm (.imm S_BatBatch)) (h0 : Dn I) (h1 : Dn I) (h2 : Dn I) (h3 : Dn I) (h4 : Dn I) (h5 : (List (Dn S_TstTest))) (h6 : (List (Dn S_DayDay))) (h7 : (List (Dn Sh.bool))) (h8 : (List (Dn S_TstTest))) : St := mkS [(1, (AV.ptr 1 none [])), (2, (AV.ptr 2 none [])), (3, (AV.sref 2503 none [])), (7, (AV.val L_TstTest x0.2.2.1)), (8, (AV.val I h0)), (9, (AV.val I h1))] [(1, (Ob.box S_BatBatch (AV.val S_BatBatch x0))), (2, (Ob.box S_BatBatch (AV.pair (AV.val I h2) (AV.pair (AV.val I h3) (AV.pair (AV.sref 2502 none []) (AV.pair (AV.val I h4) (AV.pair (AV.sref 12502 none []) (AV.sref 22502 none [])))))))), (2502, (Ob.arr 140 S_TstTest h5)), (12502, (Ob.arr 142 S_DayDay h6)), (22502, (Ob.arr 4 Sh.bool h7)), (2503, (Ob.arr 140 S_TstTest h8))]
noncomputable def r_e8 (x : In_e8) (k : Nat) (p : List Bool) (s : St) : Option Out_e8 := rounds (X_e8 g_e5 p_e5 g_e6 p_e6 g_e7 p_e7) Tryz.f87 R_e8 M_e8 x k p s
variable {g_e5 p_e5 g_e6 p_e6 g_e7 p_e7}
theorem ev_e8 (k : Nat) (x0 : Dm (.imm S_BatBatch)) : E_e8 g_e5 p_e5 g_e6 p_e6 g_e7 p_e7 k (x0, ()) =
  (r_e8 g_e5 p_e5 g_e6 p_e6 g_e7 p_e7 (x0, ()) k pt0 (h0_e8 x0 (List.length x0.2.2.1 : Int) (0 : Int) (0 : Int) (0 : Int) (0 : Int) [] [] [] [])) := by kernel_rfl
theorem rd0_e8 (k : Nat) (x0 : Dm (.imm S_BatBatch)) (h0 : Dn I) (h1 : Dn I) (h2 : Dn I) (h3 : Dn I) (h4 : Dn I) (h5 : (List (Dn S_TstTest))) (h6 : (List (Dn S_DayDay))) (h7 : (List (Dn Sh.bool))) (h8 : (List (Dn S_TstTest))) : r_e8 g_e5 p_e5 g_e6 p_e6 g_e7 p_e7 (x0, ()) (k + 1) pt0 (h0_e8 x0 h0 h1 h2 h3 h4 h5 h6 h7 h8) =
  (bif (decide (h1 < h0)) then (bif (bif (decide ((0 : Int) <= h1)) then (decide (h1 < (List.length x0.2.2.1 : Int))) else false) then (cl (p_e5 ((rdL (e := S_TstTest) x0.2.2.1 h1), ())) (g_e5 ((rdL (e := S_TstTest) x0.2.2.1 h1), ())) fun y0 => (bif (fitL h8 [(y0.1)]) then (r_e8 g_e5 p_e5 g_e6 p_e6 g_e7 p_e7 (x0, ()) k pt0 (h0_e8 x0 h0 (w64 (h1 + (1 : Int))) h2 h3 h4 h5 h6 h7 (List.append h8 [(y0.1)]))) else none)) else none) else (cl (p_e6 (x0.2.2.2.2.1, ())) (g_e6 (x0.2.2.2.2.1, ())) fun y1 => (cl (p_e7 (x0.2.2.2.2.2, ())) (g_e7 (x0.2.2.2.2.2, ())) fun y2 => (some ((x0.1, (x0.2.1, (h8, (x0.2.2.2.1, (y1.1, y2.1))))), ()))))) := by kernel_rfl
theorem S_e8 (h_e5 : C_e5 p_e5 g_e5) (h_e6 : C_e6 p_e6 g_e6) (h_e7 : C_e7 p_e7 g_e7) {pre : In_e8 -> Bool} {fn : In_e8 -> Out_e8} (hev : ∀ x, pre x = true -> ∃ k, E_e8 g_e5 p_e5 g_e6 p_e6 g_e7 p_e7 k x = some (fn x)) : C_e8 pre fn := sound tysOk mixed (fn := Tryz.f87) rfl rfl rfl (.cons h_e5 (.cons h_e6 (.cons h_e7 .nil))) _ hev
end
/-! e9: iHouHouse_copied -/
abbrev M_e9 : List Vm.Mode := [.imm S_HouHouse]
abbrev R_e9 : List (RK × Sh) := [(.own, S_HouHouse)]
abbrev In_e9 : Type := (insSh M_e9).den
abbrev Out_e9 : Type := (outSh R_e9 M_e9).den
abbrev C_e9 (pre : In_e9 -> Bool) (fn : In_e9 -> Out_e9) : Prop := Sound Tryz.prog 28 ⟨M_e9, R_e9, pre, fn⟩
section
variable (g_e1 : In_e1 -> Out_e1) (p_e1 : In_e1 -> Bool) (g_e3 : In_e3 -> Out_e3) (p_e3 : In_e3 -> Bool) (g_e8 : In_e8 -> Out_e8) (p_e8 : In_e8 -> Bool)
abbrev X_e9 : Ctx := ctx tys 29 (conOf [(85, ⟨M_e1, R_e1, p_e1, g_e1⟩), (86, ⟨M_e3, R_e3, p_e3, g_e3⟩), (87, ⟨M_e8, R_e8, p_e8, g_e8⟩)]) (keepOf [(pt0, (⟨[(2, .asis), (3, .asis), (14, .asis), (15, .asis), (16, .asis)], [(2, (.pair .own (.pair .own .own))), (3, (.pair .own (.pair .own .own)))], []⟩ : Keep))]) (fun _ => [])
noncomputable abbrev E_e9 (k : Nat) (x : In_e9) : Option Out_e9 := evFn (X_e9 g_e1 p_e1 g_e3 p_e3 g_e8 p_e8) Tryz.f28 R_e9 M_e9 k x
def h0_e9 (x0 : Dm (.imm S_HouHouse)) (h0 : Dn I) (h1 : Dn I) (h2 : (List (Dn I))) (h3 : (List (Dn S_SpcSpec))) (h4 : (List (Dn S_BatBatch))) (h5 : (List (Dn I))) (h6 : (List (Dn S_SpcSpec))) (h7 : (List (Dn S_BatBatch))) : St := mkS [(2, (AV.ptr 2 none [])), (3, (AV.ptr 3 none [])), (14, (AV.val L_BatBatch x0.2.2)), (15, (AV.val I h0)), (16, (AV.val I h1))] [(2, (Ob.box S_HouHouse (AV.pair (AV.sref 2502 none []) (AV.pair (AV.sref 12502 none []) (AV.sref 22502 none []))))), (2502, (Ob.arr 3 I h2)), (12502, (Ob.arr 131 S_SpcSpec h3)), (22502, (Ob.arr 76 S_BatBatch h4)), (3, (Ob.box S_HouHouse (AV.pair (AV.sref 2503 none []) (AV.pair (AV.sref 12503 none []) (AV.sref 22503 none []))))), (2503, (Ob.arr 3 I h5)), (12503, (Ob.arr 131 S_SpcSpec h6)), (22503, (Ob.arr 76 S_BatBatch h7))]
noncomputable def r_e9 (x : In_e9) (k : Nat) (p : List Bool) (s : St) : Option Out_e9 := rounds (X_e9 g_e1 p_e1 g_e3 p_e3 g_e8 p_e8) Tryz.f28 R_e9 M_e9 x k p s
variable {g_e1 p_e1 g_e3 p_e3 g_e8 p_e8}
theorem ev_e9 (k : Nat) (x0 : Dm (.imm S_HouHouse)) : E_e9 g_e1 p_e1 g_e3 p_e3 g_e8 p_e8 k (x0, ()) =
  (cl (p_e1 (x0.1, ())) (g_e1 (x0.1, ())) fun y0 => (cl (p_e3 (x0.2.1, ())) (g_e3 (x0.2.1, ())) fun y1 => (r_e9 g_e1 p_e1 g_e3 p_e3 g_e8 p_e8 (x0, ()) k pt0 (h0_e9 x0 (List.length x0.2.2 : Int) (0 : Int) [] [] [] (y0.1) (y1.1) [])))) := by kernel_rfl
theorem rd0_e9 (k : Nat) (x0 : Dm (.imm S_HouHouse)) (h0 : Dn I) (h1 : Dn I) (h2 : (List (Dn I))) (h3 : (List (Dn S_SpcSpec))) (h4 : (List (Dn S_BatBatch))) (h5 : (List (Dn I))) (h6 : (List (Dn S_SpcSpec))) (h7 : (List (Dn S_BatBatch))) : r_e9 g_e1 p_e1 g_e3 p_e3 g_e8 p_e8 (x0, ()) (k + 1) pt0 (h0_e9 x0 h0 h1 h2 h3 h4 h5 h6 h7) =
  (bif (decide (h1 < h0)) then (bif (bif (decide ((0 : Int) <= h1)) then (decide (h1 < (List.length x0.2.2 : Int))) else false) then (cl (p_e8 ((rdL (e := S_BatBatch) x0.2.2 h1), ())) (g_e8 ((rdL (e := S_BatBatch) x0.2.2 h1), ())) fun y0 => (bif (fitL h7 [(y0.1)]) then (r_e9 g_e1 p_e1 g_e3 p_e3 g_e8 p_e8 (x0, ()) k pt0 (h0_e9 x0 h0 (w64 (h1 + (1 : Int))) h2 h3 h4 h5 h6 (List.append h7 [(y0.1)]))) else none)) else none) else (some ((h5, (h6, h7)), ()))) := by kernel_rfl
theorem S_e9 (h_e1 : C_e1 p_e1 g_e1) (h_e3 : C_e3 p_e3 g_e3) (h_e8 : C_e8 p_e8 g_e8) {pre : In_e9 -> Bool} {fn : In_e9 -> Out_e9} (hev : ∀ x, pre x = true -> ∃ k, E_e9 g_e1 p_e1 g_e3 p_e3 g_e8 p_e8 k x = some (fn x)) : C_e9 pre fn := sound tysOk mixed (fn := Tryz.f28) rfl rfl rfl (.cons h_e1 (.cons h_e3 (.cons h_e8 .nil))) _ hev
end
/-! ea: gIndex_int -/
abbrev M_ea : List Vm.Mode := [.imm L_int, .imm I]
abbrev R_ea : List (RK × Sh) := [(.imm, I)]
abbrev In_ea : Type := (insSh M_ea).den
abbrev Out_ea : Type := (outSh R_ea M_ea).den
abbrev C_ea (pre : In_ea -> Bool) (fn : In_ea -> Out_ea) : Prop := Sound Tryz.prog 196 ⟨M_ea, R_ea, pre, fn⟩
abbrev X_ea : Ctx := ctx tys 19 (conOf []) (keepOf [(pt1, (⟨[(0, .asis), (1, .asis), (7, .asis), (8, .asis)], [], []⟩ : Keep))]) (fun _ => [])
noncomputable abbrev E_ea (k : Nat) (x : In_ea) : Option Out_ea := evFn X_ea Tryz.f196 R_ea M_ea k x
def h0_ea (x0 : Dm (.imm L_int)) (x1 : Dm (.imm I)) (h0 : Dn I) (h1 : Dn I) : St := mkS [(0, (AV.val L_int x0)), (1, (AV.val I x1)), (7, (AV.val I h0)), (8, (AV.val I h1))] []
noncomputable def r_ea (x : In_ea) (k : Nat) (p : List Bool) (s : St) : Option Out_ea := rounds X_ea Tryz.f196 R_ea M_ea x k p s
theorem ev_ea (k : Nat) (x0 : Dm (.imm L_int)) (x1 : Dm (.imm I)) : E_ea k (x0, x1, ()) =
  (r_ea  (x0, x1, ()) k pt1 (h0_ea x0 x1 (List.length x0 : Int) (0 : Int))) := by kernel_rfl
theorem rd0_ea (k : Nat) (x0 : Dm (.imm L_int)) (x1 : Dm (.imm I)) (h0 : Dn I) (h1 : Dn I) : r_ea  (x0, x1, ()) (k + 1) pt1 (h0_ea x0 x1 h0 h1) =
  (bif (decide (h1 < h0)) then (bif (bif (decide ((0 : Int) <= h1)) then (decide (h1 < (List.length x0 : Int))) else false) then (bif (decide (x1 = (rdL (e := I) x0 h1))) then (some (h1, ())) else (r_ea  (x0, x1, ()) k pt1 (h0_ea x0 x1 h0 (w64 (h1 + (1 : Int)))))) else none) else (some ((-1 : Int), ()))) := by kernel_rfl
theorem S_ea  {pre : In_ea -> Bool} {fn : In_ea -> Out_ea} (hev : ∀ x, pre x = true -> ∃ k, E_ea k x = some (fn x)) : C_ea pre fn := sound tysOk mixed (fn := Tryz.f196) rfl rfl rfl ConsOk.nil _ hev
/-! eb: gContains_int -/
abbrev M_eb : List Vm.Mode := [.imm L_int, .imm I]
abbrev R_eb : List (RK × Sh) := [(.imm, .bool)]
abbrev In_eb : Type := (insSh M_eb).den
abbrev Out_eb : Type := (outSh R_eb M_eb).den
abbrev C_eb (pre : In_eb -> Bool) (fn : In_eb -> Out_eb) : Prop := Sound Tryz.prog 150 ⟨M_eb, R_eb, pre, fn⟩
section
variable (g_ea : In_ea -> Out_ea) (p_ea : In_ea -> Bool)
abbrev X_eb : Ctx := ctx tys 9 (conOf [(196, ⟨M_ea, R_ea, p_ea, g_ea⟩)]) (keepOf []) (fun _ => [])
noncomputable abbrev E_eb (k : Nat) (x : In_eb) : Option Out_eb := evFn (X_eb g_ea p_ea) Tryz.f150 R_eb M_eb k x
variable {g_ea p_ea}
theorem ev_eb (k : Nat) (x0 : Dm (.imm L_int)) (x1 : Dm (.imm I)) : E_eb g_ea p_ea k (x0, x1, ()) =
  (cl (p_ea (x0, (x1, ()))) (g_ea (x0, (x1, ()))) fun y0 => (some ((decide ((0 : Int) <= y0.1)), ()))) := by kernel_rfl
theorem S_eb (h_ea : C_ea p_ea g_ea) {pre : In_eb -> Bool} {fn : In_eb -> Out_eb} (hev : ∀ x, pre x = true -> ∃ k, E_eb g_ea p_ea k x = some (fn x)) : C_eb pre fn := sound tysOk mixed (fn := Tryz.f150) rfl rfl rfl (.cons h_ea .nil) _ hev
end
/-! ec: iReqMay -/
abbrev M_ec : List Vm.Mode := [.imm I, .imm I]
abbrev R_ec : List (RK × Sh) := [(.imm, .bool)]
abbrev In_ec : Type := (insSh M_ec).den
abbrev Out_ec : Type := (outSh R_ec M_ec).den
abbrev C_ec (pre : In_ec -> Bool) (fn : In_ec -> Out_ec) : Prop := Sound Tryz.prog 88 ⟨M_ec, R_ec, pre, fn⟩
section
variable (g_dt : In_dt -> Out_dt) (g_eb : In_eb -> Out_eb) (p_eb : In_eb -> Bool)
abbrev X_ec : Ctx := ctx tys 10 (conOf [(42, ⟨M_dt, R_dt, fun _ => true, g_dt⟩), (150, ⟨M_eb, R_eb, p_eb, g_eb⟩)]) (keepOf []) (fun _ => [])
noncomputable abbrev E_ec (k : Nat) (x : In_ec) : Option Out_ec := evFn (X_ec g_dt g_eb p_eb) Tryz.f88 R_ec M_ec k x
variable {g_dt g_eb p_eb}
theorem ev_ec (k : Nat) (x0 : Dm (.imm I)) (x1 : Dm (.imm I)) : E_ec g_dt g_eb p_eb k (x0, x1, ()) =
  (cl (p_eb ((g_dt (x1, ())).1.2.1, (x0, ()))) (g_eb ((g_dt (x1, ())).1.2.1, (x0, ()))) fun y0 => (some (y0.1, ()))) := by kernel_rfl
theorem S_ec (h_dt : C_dt (fun _ => true) g_dt) (h_eb : C_eb p_eb g_eb) {pre : In_ec -> Bool} {fn : In_ec -> Out_ec} (hev : ∀ x, pre x = true -> ∃ k, E_ec g_dt g_eb p_eb k x = some (fn x)) : C_ec pre fn := sound tysOk mixed (fn := Tryz.f88) rfl rfl rfl (.cons h_dt (.cons h_eb .nil)) _ hev
end
/-! ed: iSpcAdd -/
abbrev M_ed : List Vm.Mode := [.imm L_SpcSpec, .imm L_SpcTest]
abbrev R_ed : List (RK × Sh) := [(.own, L_SpcSpec), (.imm, .bool)]
abbrev In_ed : Type := (insSh M_ed).den
abbrev Out_ed : Type := (outSh R_ed M_ed).den
abbrev C_ed (pre : In_ed -> Bool) (fn : In_ed -> Out_ed) : Prop := Sound Tryz.prog 89 ⟨M_ed, R_ed, pre, fn⟩
section
variable (g_e3 : In_e3 -> Out_e3) (p_e3 : In_e3 -> Bool) (g_cm : In_cm -> Out_cm) (p_cm : In_cm -> Bool) (g_cl : In_cl -> Out_cl) (p_cl : In_cl -> Bool) (g_e2 : In_e2 -> Out_e2) (p_e2 : In_e2 -> Bool)
abbrev X_ed : Ctx := ctx tys 29 (conOf [(86, ⟨M_e3, R_e3, p_e3, g_e3⟩), (83, ⟨M_cm, R_cm, p_cm, g_cm⟩), (45, ⟨M_cl, R_cl, p_cl, g_cl⟩), (146, ⟨M_e2, R_e2, p_e2, g_e2⟩)]) (keepOf []) (fun _ => [])
noncomputable abbrev E_ed (k : Nat) (x : In_ed) : Option Out_ed := evFn (X_ed g_e3 p_e3 g_cm p_cm g_cl p_cl g_e2 p_e2) Tryz.f89 R_ed M_ed k x
variable {g_e3 p_e3 g_cm p_cm g_cl p_cl g_e2 p_e2}
theorem ev_ed (k : Nat) (x0 : Dm (.imm L_SpcSpec)) (x1 : Dm (.imm L_SpcTest)) : E_ed g_e3 p_e3 g_cm p_cm g_cl p_cl g_e2 p_e2 k (x0, x1, ()) =
  (bif (p_e3 (x0, ())) then (bif (p_cm (x0, ())) then (bif (bif (g_cm (x0, ())).1 then false else true) then (some ((g_e3 (x0, ())).1, (false, ()))) else (bif (p_cl (x1, ())) then (bif (bif (g_cl (x1, ())).1 then false else true) then (some ((g_e3 (x0, ())).1, (false, ()))) else (bif (decide ((List.length x0 : Int) = (6 : Int))) then (some ((g_e3 (x0, ())).1, (false, ()))) else (bif (p_e2 (x1, ())) then (bif (fitL (g_e3 (x0, ())).1 [((g_e2 (x1, ())).1, (1 : Int))]) then (some ((List.append (g_e3 (x0, ())).1 [((g_e2 (x1, ())).1, (1 : Int))]), (true, ()))) else none) else none))) else none)) else none) else none) := by kernel_rfl
theorem S_ed (h_e3 : C_e3 p_e3 g_e3) (h_cm : C_cm p_cm g_cm) (h_cl : C_cl p_cl g_cl) (h_e2 : C_e2 p_e2 g_e2) {pre : In_ed -> Bool} {fn : In_ed -> Out_ed} (hev : ∀ x, pre x = true -> ∃ k, E_ed g_e3 p_e3 g_cm p_cm g_cl p_cl g_e2 p_e2 k x = some (fn x)) : C_ed pre fn := sound tysOk mixed (fn := Tryz.f89) rfl rfl rfl (.cons h_e3 (.cons h_cm (.cons h_cl (.cons h_e2 .nil)))) _ hev
end
/-! ee: ianswer -/
abbrev M_ee : List Vm.Mode := [.imm .bool, .imm I]
abbrev R_ee : List (RK × Sh) := [(.imm, I)]
abbrev In_ee : Type := (insSh M_ee).den
abbrev Out_ee : Type := (outSh R_ee M_ee).den
abbrev C_ee (pre : In_ee -> Bool) (fn : In_ee -> Out_ee) : Prop := Sound Tryz.prog 90 ⟨M_ee, R_ee, pre, fn⟩
abbrev X_ee : Ctx := ctx tys 7 (conOf []) (keepOf []) (fun _ => [])
noncomputable abbrev E_ee (k : Nat) (x : In_ee) : Option Out_ee := evFn X_ee Tryz.f90 R_ee M_ee k x
theorem ev_ee (k : Nat) (x0 : Dm (.imm .bool)) (x1 : Dm (.imm I)) : E_ee k (x0, x1, ()) =
  (bif x0 then (some ((1 : Int), ())) else (some (x1, ()))) := by kernel_rfl
theorem S_ee  {pre : In_ee -> Bool} {fn : In_ee -> Out_ee} (hev : ∀ x, pre x = true -> ∃ k, E_ee k x = some (fn x)) : C_ee pre fn := sound tysOk mixed (fn := Tryz.f90) rfl rfl rfl ConsOk.nil _ hev
/-! ef: iSpcNow_c1 -/
abbrev M_ef : List Vm.Mode := [.imm S_SpcSpec]
abbrev R_ef : List (RK × Sh) := [(.imm, .bool)]
abbrev In_ef : Type := (insSh M_ef).den
abbrev Out_ef : Type := (outSh R_ef M_ef).den
abbrev C_ef (pre : In_ef -> Bool) (fn : In_ef -> Out_ef) : Prop := Sound Tryz.prog 198 ⟨M_ef, R_ef, pre, fn⟩
abbrev X_ef : Ctx := ctx tys 6 (conOf []) (keepOf []) (fun _ => [])
noncomputable abbrev E_ef (k : Nat) (x : In_ef) : Option Out_ef := evFn X_ef Tryz.f198 R_ef M_ef k x
theorem ev_ef (k : Nat) (x0 : Dm (.imm S_SpcSpec)) : E_ef k (x0, ()) =
  (some ((decide (x0.2 = (2 : Int))), ())) := by kernel_rfl
theorem S_ef  {pre : In_ef -> Bool} {fn : In_ef -> Out_ef} (hev : ∀ x, pre x = true -> ∃ k, E_ef k x = some (fn x)) : C_ef pre fn := sound tysOk mixed (fn := Tryz.f198) rfl rfl rfl ConsOk.nil _ hev
/-! eg: gIndexFunc_SpcSpec__iSpcNow_c1 -/
abbrev M_eg : List Vm.Mode := [.imm L_SpcSpec, .clo 198 []]
abbrev R_eg : List (RK × Sh) := [(.imm, I)]
abbrev In_eg : Type := (insSh M_eg).den
abbrev Out_eg : Type := (outSh R_eg M_eg).den
abbrev C_eg (pre : In_eg -> Bool) (fn : In_eg -> Out_eg) : Prop := Sound Tryz.prog 197 ⟨M_eg, R_eg, pre, fn⟩
section
variable (g_ef : In_ef -> Out_ef)
abbrev X_eg : Ctx := ctx tys 19 (conOf [(198, ⟨M_ef, R_ef, fun _ => true, g_ef⟩)]) (keepOf [(pt1, (⟨[(0, .asis), (1, .asis), (7, .asis), (8, .asis)], [], []⟩ : Keep))]) (fun _ => [])
noncomputable abbrev E_eg (k : Nat) (x : In_eg) : Option Out_eg := evFn (X_eg g_ef) Tryz.f197 R_eg M_eg k x
def h0_eg (x0 : Dm (.imm L_SpcSpec)) (x1 : Dm (.clo 198 [])) (h0 : Dn I) (h1 : Dn I) : St := mkS [(0, (AV.val L_SpcSpec x0)), (1, (AV.fn 198 [])), (7, (AV.val I h0)), (8, (AV.val I h1))] []
noncomputable def r_eg (x : In_eg) (k : Nat) (p : List Bool) (s : St) : Option Out_eg := rounds (X_eg g_ef) Tryz.f197 R_eg M_eg x k p s
variable {g_ef}
theorem ev_eg (k : Nat) (x0 : Dm (.imm L_SpcSpec)) (x1 : Dm (.clo 198 [])) : E_eg g_ef k (x0, x1, ()) =
  (r_eg g_ef (x0, x1, ()) k pt1 (h0_eg x0 x1 (List.length x0 : Int) (0 : Int))) := by kernel_rfl
theorem rd0_eg (k : Nat) (x0 : Dm (.imm L_SpcSpec)) (x1 : Dm (.clo 198 [])) (h0 : Dn I) (h1 : Dn I) : r_eg g_ef (x0, x1, ()) (k + 1) pt1 (h0_eg x0 x1 h0 h1) =
  (bif (decide (h1 < h0)) then (bif (bif (decide ((0 : Int) <= h1)) then (decide (h1 < (List.length x0 : Int))) else false) then (bif (g_ef ((rdL (e := S_SpcSpec) x0 h1), ())).1 then (some (h1, ())) else (r_eg g_ef (x0, x1, ()) k pt1 (h0_eg x0 x1 h0 (w64 (h1 + (1 : Int)))))) else none) else (some ((-1 : Int), ()))) := by kernel_rfl
theorem S_eg (h_ef : C_ef (fun _ => true) g_ef) {pre : In_eg -> Bool} {fn : In_eg -> Out_eg} (hev : ∀ x, pre x = true -> ∃ k, E_eg g_ef k x = some (fn x)) : C_eg pre fn := sound tysOk mixed (fn := Tryz.f197) rfl rfl rfl (.cons h_ef .nil) _ hev
end
/-! eh: iSpcNow -/
abbrev M_eh : List Vm.Mode := [.imm L_SpcSpec]
abbrev R_eh : List (RK × Sh) := [(.imm, I)]
abbrev In_eh : Type := (insSh M_eh).den
abbrev Out_eh : Type := (outSh R_eh M_eh).den
abbrev C_eh (pre : In_eh -> Bool) (fn : In_eh -> Out_eh) : Prop := Sound Tryz.prog 151 ⟨M_eh, R_eh, pre, fn⟩
section
variable (g_eg : In_eg -> Out_eg) (p_eg : In_eg -> Bool)
abbrev X_eh : Ctx := ctx tys 5 (conOf [(197, ⟨M_eg, R_eg, p_eg, g_eg⟩)]) (keepOf []) (fun _ => [])
noncomputable abbrev E_eh (k : Nat) (x : In_eh) : Option Out_eh := evFn (X_eh g_eg p_eg) Tryz.f151 R_eh M_eh k x
variable {g_eg p_eg}
theorem ev_eh (k : Nat) (x0 : Dm (.imm L_SpcSpec)) : E_eh g_eg p_eg k (x0, ()) =
  (bif (p_eg (x0, ((), ()))) then (some ((g_eg (x0, ((), ()))).1, ())) else none) := by kernel_rfl
theorem S_eh (h_eg : C_eg p_eg g_eg) {pre : In_eh -> Bool} {fn : In_eh -> Out_eh} (hev : ∀ x, pre x = true -> ∃ k, E_eh g_eg p_eg k x = some (fn x)) : C_eh pre fn := sound tysOk mixed (fn := Tryz.f151) rfl rfl rfl (.cons h_eg .nil) _ hev
end
/-! ei: iSpcRaise -/
abbrev M_ei : List Vm.Mode := [.imm L_SpcSpec, .imm I]
abbrev R_ei : List (RK × Sh) := [(.own, L_SpcSpec), (.imm, .bool)]
abbrev In_ei : Type := (insSh M_ei).den
abbrev Out_ei : Type := (outSh R_ei M_ei).den
abbrev C_ei (pre : In_ei -> Bool) (fn : In_ei -> Out_ei) : Prop := Sound Tryz.prog 91 ⟨M_ei, R_ei, pre, fn⟩
section
variable (g_e3 : In_e3 -> Out_e3) (p_e3 : In_e3 -> Bool) (g_cm : In_cm -> Out_cm) (p_cm : In_cm -> Bool) (g_iin : In_iin -> Out_iin) (g_eh : In_eh -> Out_eh) (p_eh : In_eh -> Bool)
abbrev X_ei : Ctx := ctx tys 43 (conOf [(86, ⟨M_e3, R_e3, p_e3, g_e3⟩), (83, ⟨M_cm, R_cm, p_cm, g_cm⟩), (41, ⟨M_iin, R_iin, fun _ => true, g_iin⟩), (151, ⟨M_eh, R_eh, p_eh, g_eh⟩)]) (keepOf []) (fun _ => [])
noncomputable abbrev E_ei (k : Nat) (x : In_ei) : Option Out_ei := evFn (X_ei g_e3 p_e3 g_cm p_cm g_iin g_eh p_eh) Tryz.f91 R_ei M_ei k x
variable {g_e3 p_e3 g_cm p_cm g_iin g_eh p_eh}
theorem ev_ei (k : Nat) (x0 : Dm (.imm L_SpcSpec)) (x1 : Dm (.imm I)) : E_ei g_e3 p_e3 g_cm p_cm g_iin g_eh p_eh k (x0, x1, ()) =
  (bif (p_e3 (x0, ())) then (bif (p_cm (x0, ())) then (bif (bif (g_cm (x0, ())).1 then false else true) then (some ((g_e3 (x0, ())).1, (false, ()))) else (bif (bif (g_iin (x1, ((0 : Int), ((w64 ((List.length x0 : Int) - (1 : Int))), ())))).1 then false else true) then (some ((g_e3 (x0, ())).1, (false, ()))) else (bif (bif (decide ((0 : Int) <= x1)) then (decide (x1 < (List.length x0 : Int))) else false) then (bif (bif (decide ((rdL (e := S_SpcSpec) x0 x1).2 = (1 : Int))) then false else true) then (some ((g_e3 (x0, ())).1, (false, ()))) else (bif (p_eh ((g_e3 (x0, ())).1, ())) then (bif (decide ((0 : Int) <= (g_eh ((g_e3 (x0, ())).1, ())).1)) then (bif (bif (decide ((0 : Int) <= (g_eh ((g_e3 (x0, ())).1, ())).1)) then (decide ((g_eh ((g_e3 (x0, ())).1, ())).1 < (List.length (g_e3 (x0, ())).1 : Int))) else false) then (bif (bif (decide ((0 : Int) <= x1)) then (decide (x1 < (List.length (List.set (g_e3 (x0, ())).1 (Int.toNat (g_eh ((g_e3 (x0, ())).1, ())).1) ((rdL (e := S_SpcSpec) (g_e3 (x0, ())).1 (g_eh ((g_e3 (x0, ())).1, ())).1).1, (3 : Int))) : Int))) else false) then (some ((List.set (List.set (g_e3 (x0, ())).1 (Int.toNat (g_eh ((g_e3 (x0, ())).1, ())).1) ((rdL (e := S_SpcSpec) (g_e3 (x0, ())).1 (g_eh ((g_e3 (x0, ())).1, ())).1).1, (3 : Int))) (Int.toNat x1) ((rdL (e := S_SpcSpec) (List.set (g_e3 (x0, ())).1 (Int.toNat (g_eh ((g_e3 (x0, ())).1, ())).1) ((rdL (e := S_SpcSpec) (g_e3 (x0, ())).1 (g_eh ((g_e3 (x0, ())).1, ())).1).1, (3 : Int))) x1).1, (2 : Int))), (true, ()))) else none) else none) else (bif (bif (decide ((0 : Int) <= x1)) then (decide (x1 < (List.length (g_e3 (x0, ())).1 : Int))) else false) then (some ((List.set (g_e3 (x0, ())).1 (Int.toNat x1) ((rdL (e := S_SpcSpec) (g_e3 (x0, ())).1 x1).1, (2 : Int))), (true, ()))) else none)) else none)) else none))) else none) else none) := by kernel_rfl
theorem S_ei (h_e3 : C_e3 p_e3 g_e3) (h_cm : C_cm p_cm g_cm) (h_iin : C_iin (fun _ => true) g_iin) (h_eh : C_eh p_eh g_eh) {pre : In_ei -> Bool} {fn : In_ei -> Out_ei} (hev : ∀ x, pre x = true -> ∃ k, E_ei g_e3 p_e3 g_cm p_cm g_iin g_eh p_eh k x = some (fn x)) : C_ei pre fn := sound tysOk mixed (fn := Tryz.f91) rfl rfl rfl (.cons h_e3 (.cons h_cm (.cons h_iin (.cons h_eh .nil)))) _ hev
end
/-! ej: iTstNew -/
abbrev M_ej : List Vm.Mode := [.imm S_SpcTest]
abbrev R_ej : List (RK × Sh) := [(.own, S_TstTest)]
abbrev In_ej : Type := (insSh M_ej).den
abbrev Out_ej : Type := (outSh R_ej M_ej).den
abbrev C_ej (pre : In_ej -> Bool) (fn : In_ej -> Out_ej) : Prop := Sound Tryz.prog 199 ⟨M_ej, R_ej, pre, fn⟩
abbrev X_ej : Ctx := ctx tys 5 (conOf []) (keepOf []) (fun _ => [])
noncomputable abbrev E_ej (k : Nat) (x : In_ej) : Option Out_ej := evFn X_ej Tryz.f199 R_ej M_ej k x
theorem ev_ej (k : Nat) (x0 : Dm (.imm S_SpcTest)) : E_ej k (x0, ()) =
  (some ((x0, ((0 : Int), (((0 : Int), (0 : Int)), ((0 : Int), [])))), ())) := by kernel_rfl
theorem S_ej  {pre : In_ej -> Bool} {fn : In_ej -> Out_ej} (hev : ∀ x, pre x = true -> ∃ k, E_ej k x = some (fn x)) : C_ej pre fn := sound tysOk mixed (fn := Tryz.f199) rfl rfl rfl ConsOk.nil _ hev
/-! ek: iBatNew -/
abbrev M_ek : List Vm.Mode := [.imm I, .imm L_SpcTest, .imm I]
abbrev R_ek : List (RK × Sh) := [(.own, S_BatBatch)]
abbrev In_ek : Type := (insSh M_ek).den
abbrev Out_ek : Type := (outSh R_ek M_ek).den
abbrev C_ek (pre : In_ek -> Bool) (fn : In_ek -> Out_ek) : Prop := Sound Tryz.prog 152 ⟨M_ek, R_ek, pre, fn⟩
section
variable (g_iin : In_iin -> Out_iin) (g_cl : In_cl -> Out_cl) (p_cl : In_cl -> Bool) (g_ej : In_ej -> Out_ej)
abbrev X_ek : Ctx := ctx tys 42 (conOf [(41, ⟨M_iin, R_iin, fun _ => true, g_iin⟩), (45, ⟨M_cl, R_cl, p_cl, g_cl⟩), (199, ⟨M_ej, R_ej, fun _ => true, g_ej⟩)]) (keepOf [(pt2, (⟨[(6, .asis), (7, .asis), (27, .asis), (28, .asis), (29, .asis)], [(6, (.pair .asis (.pair .asis (.pair .own (.pair .asis (.pair .own .own)))))), (7, (.pair .asis (.pair .asis (.pair .own (.pair .asis (.pair .own .own))))))], []⟩ : Keep))]) (fun _ => [])
noncomputable abbrev E_ek (k : Nat) (x : In_ek) : Option Out_ek := evFn (X_ek g_iin g_cl p_cl g_ej) Tryz.f152 R_ek M_ek k x
def h0_ek (x0 : Dm (.imm I)) (x1 : Dm (.imm L_SpcTest)) (x2 : Dm (.imm I)) (h0 : Dn I) (h1 : Dn I) (h2 : Dn I) (h3 : Dn I) (h4 : Dn I) (h5 : (List (Dn S_TstTest))) (h6 : (List (Dn S_DayDay))) (h7 : (List (Dn Sh.bool))) (h8 : Dn I) (h9 : (List (Dn S_TstTest))) (h10 : (List (Dn S_DayDay))) (h11 : (List (Dn Sh.bool))) : St := mkS [(6, (AV.ptr 6 none [])), (7, (AV.ptr 7 none [])), (27, (AV.val L_SpcTest x1)), (28, (AV.val I h0)), (29, (AV.val I h1))] [(6, (Ob.box S_BatBatch (AV.pair (AV.val I h2) (AV.pair (AV.val I h3) (AV.pair (AV.sref 2506 none []) (AV.pair (AV.val I h4) (AV.pair (AV.sref 12506 none []) (AV.sref 22506 none [])))))))), (2506, (Ob.arr 140 S_TstTest h5)), (12506, (Ob.arr 142 S_DayDay h6)), (22506, (Ob.arr 4 Sh.bool h7)), (7, (Ob.box S_BatBatch (AV.pair (AV.val I x0) (AV.pair (AV.val I x2) (AV.pair (AV.sref 2507 none []) (AV.pair (AV.val I h8) (AV.pair (AV.sref 12507 none []) (AV.sref 22507 none [])))))))), (2507, (Ob.arr 140 S_TstTest h9)), (12507, (Ob.arr 142 S_DayDay h10)), (22507, (Ob.arr 4 Sh.bool h11))]
noncomputable def r_ek (x : In_ek) (k : Nat) (p : List Bool) (s : St) : Option Out_ek := rounds (X_ek g_iin g_cl p_cl g_ej) Tryz.f152 R_ek M_ek x k p s
variable {g_iin g_cl p_cl g_ej}
theorem ev_ek (k : Nat) (x0 : Dm (.imm I)) (x1 : Dm (.imm L_SpcTest)) (x2 : Dm (.imm I)) : E_ek g_iin g_cl p_cl g_ej k (x0, x1, x2, ()) =
  (bif (bif (g_iin (x0, ((0 : Int), ((5 : Int), ())))).1 then false else true) then (some (((0 : Int), ((0 : Int), ([], ((0 : Int), ([], []))))), ())) else (cl (p_cl (x1, ())) (g_cl (x1, ())) fun y0 => (bif (bif y0.1 then false else true) then (some (((0 : Int), ((0 : Int), ([], ((0 : Int), ([], []))))), ())) else (bif (bif (g_iin (x2, ((1 : Int), ((10000 : Int), ())))).1 then false else true) then (some (((0 : Int), ((0 : Int), ([], ((0 : Int), ([], []))))), ())) else (r_ek g_iin g_cl p_cl g_ej (x0, x1, x2, ()) k pt2 (h0_ek x0 x1 x2 (List.length x1 : Int) (0 : Int) (0 : Int) (0 : Int) (0 : Int) [] [] [] (1 : Int) [] [] [])))))) := by kernel_rfl
theorem rd0_ek (k : Nat) (x0 : Dm (.imm I)) (x1 : Dm (.imm L_SpcTest)) (x2 : Dm (.imm I)) (h0 : Dn I) (h1 : Dn I) (h2 : Dn I) (h3 : Dn I) (h4 : Dn I) (h5 : (List (Dn S_TstTest))) (h6 : (List (Dn S_DayDay))) (h7 : (List (Dn Sh.bool))) (h8 : Dn I) (h9 : (List (Dn S_TstTest))) (h10 : (List (Dn S_DayDay))) (h11 : (List (Dn Sh.bool))) : r_ek g_iin g_cl p_cl g_ej (x0, x1, x2, ()) (k + 1) pt2 (h0_ek x0 x1 x2 h0 h1 h2 h3 h4 h5 h6 h7 h8 h9 h10 h11) =
  (bif (decide (h1 < h0)) then (bif (bif (decide ((0 : Int) <= h1)) then (decide (h1 < (List.length x1 : Int))) else false) then (bif (fitL h9 [((g_ej ((rdL (e := S_SpcTest) x1 h1), ())).1)]) then (r_ek g_iin g_cl p_cl g_ej (x0, x1, x2, ()) k pt2 (h0_ek x0 x1 x2 h0 (w64 (h1 + (1 : Int))) h2 h3 h4 h5 h6 h7 h8 (List.append h9 [((g_ej ((rdL (e := S_SpcTest) x1 h1), ())).1)]) h10 h11)) else none) else none) else (some ((x0, (x2, (h9, (h8, (h10, h11))))), ()))) := by kernel_rfl
theorem S_ek (h_iin : C_iin (fun _ => true) g_iin) (h_cl : C_cl p_cl g_cl) (h_ej : C_ej (fun _ => true) g_ej) {pre : In_ek -> Bool} {fn : In_ek -> Out_ek} (hev : ∀ x, pre x = true -> ∃ k, E_ek g_iin g_cl p_cl g_ej k x = some (fn x)) : C_ek pre fn := sound tysOk mixed (fn := Tryz.f152) rfl rfl rfl (.cons h_iin (.cons h_cl (.cons h_ej .nil))) _ hev
end
/-! el: iHouHouse_take -/
abbrev M_el : List Vm.Mode := [.pO S_HouHouse, .imm I]
abbrev R_el : List (RK × Sh) := [(.imm, I)]
abbrev In_el : Type := (insSh M_el).den
abbrev Out_el : Type := (outSh R_el M_el).den
abbrev C_el (pre : In_el -> Bool) (fn : In_el -> Out_el) : Prop := Sound Tryz.prog 92 ⟨M_el, R_el, pre, fn⟩
section
variable (g_eh : In_eh -> Out_eh) (p_eh : In_eh -> Bool) (g_ek : In_ek -> Out_ek) (p_ek : In_ek -> Bool)
abbrev X_el : Ctx := ctx tys 44 (conOf [(151, ⟨M_eh, R_eh, p_eh, g_eh⟩), (152, ⟨M_ek, R_ek, p_ek, g_ek⟩)]) (keepOf []) (fun _ => [])
noncomputable abbrev E_el (k : Nat) (x : In_el) : Option Out_el := evFn (X_el g_eh p_eh g_ek p_ek) Tryz.f92 R_el M_el k x
variable {g_eh p_eh g_ek p_ek}
theorem ev_el (k : Nat) (x0 : Dm (.pO S_HouHouse)) (x1 : Dm (.imm I)) : E_el g_eh p_eh g_ek p_ek k (x0, x1, ()) =
  (cl (p_eh (x0.2.1, ())) (g_eh (x0.2.1, ())) fun y0 => (bif (decide (y0.1 < (0 : Int))) then (some ((4 : Int), (x0, ()))) else (bif (decide ((List.length x0.2.2 : Int) = (4 : Int))) then (some ((6 : Int), (x0, ()))) else (bif (decide (x1 = (0 : Int))) then (some ((5 : Int), (x0, ()))) else (bif (bif (decide ((0 : Int) <= y0.1)) then (decide (y0.1 < (List.length x0.2.1 : Int))) else false) then (cl (p_ek (y0.1, ((rdL (e := S_SpcSpec) x0.2.1 y0.1).1, (x1, ())))) (g_ek (y0.1, ((rdL (e := S_SpcSpec) x0.2.1 y0.1).1, (x1, ())))) fun y1 => (bif (fitL x0.2.2 [(y1.1)]) then (some ((1 : Int), ((x0.1, (x0.2.1, (List.append x0.2.2 [(y1.1)]))), ()))) else none)) else none))))) := by kernel_rfl
theorem S_el (h_eh : C_eh p_eh g_eh) (h_ek : C_ek p_ek g_ek) {pre : In_el -> Bool} {fn : In_el -> Out_el} (hev : ∀ x, pre x = true -> ∃ k, E_el g_eh p_eh g_ek p_ek k x = some (fn x)) : C_el pre fn := sound tysOk mixed (fn := Tryz.f92) rfl rfl rfl (.cons h_eh (.cons h_ek .nil)) _ hev
end
/-! em: iBatTest_c1_c1 -/
abbrev M_em : List Vm.Mode := [.imm S_TstTest, .pR I]
abbrev R_em : List (RK × Sh) := [(.imm, .bool)]
abbrev In_em : Type := (insSh M_em).den
abbrev Out_em : Type := (outSh R_em M_em).den
abbrev C_em (pre : In_em -> Bool) (fn : In_em -> Out_em) : Prop := Sound Tryz.prog 203 ⟨M_em, R_em, pre, fn⟩
abbrev X_em : Ctx := ctx tys 9 (conOf []) (keepOf []) (fun _ => [])
noncomputable abbrev E_em (k : Nat) (x : In_em) : Option Out_em := evFn X_em Tryz.f203 R_em M_em k x
theorem ev_em (k : Nat) (x0 : Dm (.imm S_TstTest)) (x1 : Dm (.pR I)) : E_em k (x0, x1, ()) =
  (some ((decide (x0.1.1 = x1)), ())) := by kernel_rfl
theorem S_em  {pre : In_em -> Bool} {fn : In_em -> Out_em} (hev : ∀ x, pre x = true -> ∃ k, E_em k x = some (fn x)) : C_em pre fn := sound tysOk mixed (fn := Tryz.f203) rfl rfl rfl ConsOk.nil _ hev
/-! en: gIndexFunc_TstTest__iBatTest_c1_c1 -/
abbrev M_en : List Vm.Mode := [.imm L_TstTest, .clo 203 [I]]
abbrev R_en : List (RK × Sh) := [(.imm, I)]
abbrev In_en : Type := (insSh M_en).den
abbrev Out_en : Type := (outSh R_en M_en).den
abbrev C_en (pre : In_en -> Bool) (fn : In_en -> Out_en) : Prop := Sound Tryz.prog 202 ⟨M_en, R_en, pre, fn⟩
section
variable (g_em : In_em -> Out_em) (p_em : In_em -> Bool)
abbrev X_en : Ctx := ctx tys 19 (conOf [(203, ⟨M_em, R_em, p_em, g_em⟩)]) (keepOf [(pt1, (⟨[(0, .asis), (1, .asis), (7, .asis), (8, .asis)], [(1000005000, .asis)], []⟩ : Keep))]) (fun _ => [])
noncomputable abbrev E_en (k : Nat) (x : In_en) : Option Out_en := evFn (X_en g_em p_em) Tryz.f202 R_en M_en k x
def h0_en (x0 : Dm (.imm L_TstTest)) (x1 : Dm (.clo 203 [I])) (h0 : Dn I) (h1 : Dn I) : St := mkS [(0, (AV.val L_TstTest x0)), (1, (AV.fn 203 [1000005000])), (7, (AV.val I h0)), (8, (AV.val I h1))] [(1000005000, (Ob.cbox I x1.1))]
noncomputable def r_en (x : In_en) (k : Nat) (p : List Bool) (s : St) : Option Out_en := rounds (X_en g_em p_em) Tryz.f202 R_en M_en x k p s
variable {g_em p_em}
theorem ev_en (k : Nat) (x0 : Dm (.imm L_TstTest)) (x1 : Dm (.clo 203 [I])) : E_en g_em p_em k (x0, x1, ()) =
  (r_en g_em p_em (x0, x1, ()) k pt1 (h0_en x0 x1 (List.length x0 : Int) (0 : Int))) := by kernel_rfl
theorem rd0_en (k : Nat) (x0 : Dm (.imm L_TstTest)) (x1 : Dm (.clo 203 [I])) (h0 : Dn I) (h1 : Dn I) : r_en g_em p_em (x0, x1, ()) (k + 1) pt1 (h0_en x0 x1 h0 h1) =
  (bif (decide (h1 < h0)) then (bif (bif (decide ((0 : Int) <= h1)) then (decide (h1 < (List.length x0 : Int))) else false) then (cl (p_em ((rdL (e := S_TstTest) x0 h1), (x1.1, ()))) (g_em ((rdL (e := S_TstTest) x0 h1), (x1.1, ()))) fun y0 => (bif y0.1 then (some (h1, ())) else (r_en g_em p_em (x0, x1, ()) k pt1 (h0_en x0 x1 h0 (w64 (h1 + (1 : Int))))))) else none) else (some ((-1 : Int), ()))) := by kernel_rfl
theorem S_en (h_em : C_em p_em g_em) {pre : In_en -> Bool} {fn : In_en -> Out_en} (hev : ∀ x, pre x = true -> ∃ k, E_en g_em p_em k x = some (fn x)) : C_en pre fn := sound tysOk mixed (fn := Tryz.f202) rfl rfl rfl (.cons h_em .nil) _ hev
end
/-! eo: iTstPut_c1 -/
abbrev M_eo : List Vm.Mode := [.pO S_TstTest, .pR S_DecDec]
abbrev R_eo : List (RK × Sh) := []
abbrev In_eo : Type := (insSh M_eo).den
abbrev Out_eo : Type := (outSh R_eo M_eo).den
abbrev C_eo (pre : In_eo -> Bool) (fn : In_eo -> Out_eo) : Prop := Sound Tryz.prog 243 ⟨M_eo, R_eo, pre, fn⟩
abbrev X_eo : Ctx := ctx tys 7 (conOf []) (keepOf []) (fun _ => [])
noncomputable abbrev E_eo (k : Nat) (x : In_eo) : Option Out_eo := evFn X_eo Tryz.f243 R_eo M_eo k x
theorem ev_eo (k : Nat) (x0 : Dm (.pO S_TstTest)) (x1 : Dm (.pR S_DecDec)) : E_eo k (x0, x1, ()) =
  (some ((x0.1, (x0.2.1, (x1, x0.2.2.2))), ())) := by kernel_rfl
theorem S_eo  {pre : In_eo -> Bool} {fn : In_eo -> Out_eo} (hev : ∀ x, pre x = true -> ∃ k, E_eo k x = some (fn x)) : C_eo pre fn := sound tysOk mixed (fn := Tryz.f243) rfl rfl rfl ConsOk.nil _ hev
/-! ep: iturned__iTstPut_c1 -/
abbrev M_ep : List Vm.Mode := [.imm S_TstTest, .imm I, .imm .bool, .clo 243 [S_DecDec]]
abbrev R_ep : List (RK × Sh) := [(.own, S_TstTest), (.imm, .bool)]
abbrev In_ep : Type := (insSh M_ep).den
abbrev Out_ep : Type := (outSh R_ep M_ep).den
abbrev C_ep (pre : In_ep -> Bool) (fn : In_ep -> Out_ep) : Prop := Sound Tryz.prog 242 ⟨M_ep, R_ep, pre, fn⟩
section
variable (g_e5 : In_e5 -> Out_e5) (p_e5 : In_e5 -> Bool) (g_cz : In_cz -> Out_cz) (p_cz : In_cz -> Bool) (g_eo : In_eo -> Out_eo) (p_eo : In_eo -> Bool) (g_cy : In_cy -> Out_cy) (p_cy : In_cy -> Bool)
abbrev X_ep : Ctx := ctx tys 33 (conOf [(147, ⟨M_e5, R_e5, p_e5, g_e5⟩), (189, ⟨M_cz, R_cz, p_cz, g_cz⟩), (243, ⟨M_eo, R_eo, p_eo, g_eo⟩), (235, ⟨M_cy, R_cy, p_cy, g_cy⟩)]) (keepOf []) (fun _ => [])
noncomputable abbrev E_ep (k : Nat) (x : In_ep) : Option Out_ep := evFn (X_ep g_e5 p_e5 g_cz p_cz g_eo p_eo g_cy p_cy) Tryz.f242 R_ep M_ep k x
variable {g_e5 p_e5 g_cz p_cz g_eo p_eo g_cy p_cy}
theorem ev_ep (k : Nat) (x0 : Dm (.imm S_TstTest)) (x1 : Dm (.imm I)) (x2 : Dm (.imm .bool)) (x3 : Dm (.clo 243 [S_DecDec])) : E_ep g_e5 p_e5 g_cz p_cz g_eo p_eo g_cy p_cy k (x0, x1, x2, x3, ()) =
  (cl (p_e5 (x0, ())) (g_e5 (x0, ())) fun y0 => (cl (p_cz (x0, ())) (g_cz (x0, ())) fun y1 => (bif (bif y1.1 then false else true) then (some (y0.1, (false, ()))) else (bif (bif (decide (x0.2.1 = x1)) then false else true) then (some (y0.1, (false, ()))) else (bif (bif x2 then false else true) then (some (y0.1, (false, ()))) else (cl (p_eo (y0.1, (x3.1, ()))) (g_eo (y0.1, (x3.1, ()))) fun y2 => (cl (p_cy (y2.1, ())) (g_cy (y2.1, ())) fun y3 => (some ((y2.1.1, (y3.1, y2.1.2.2)), (true, ())))))))))) := by kernel_rfl
theorem S_ep (h_e5 : C_e5 p_e5 g_e5) (h_cz : C_cz p_cz g_cz) (h_eo : C_eo p_eo g_eo) (h_cy : C_cy p_cy g_cy) {pre : In_ep -> Bool} {fn : In_ep -> Out_ep} (hev : ∀ x, pre x = true -> ∃ k, E_ep g_e5 p_e5 g_cz p_cz g_eo p_eo g_cy p_cy k x = some (fn x)) : C_ep pre fn := sound tysOk mixed (fn := Tryz.f242) rfl rfl rfl (.cons h_e5 (.cons h_cz (.cons h_eo (.cons h_cy .nil)))) _ hev
end
/-! eq: iTstPut -/
abbrev M_eq : List Vm.Mode := [.imm S_TstTest, .imm S_DecDec]
abbrev R_eq : List (RK × Sh) := [(.own, S_TstTest), (.imm, .bool)]
abbrev In_eq : Type := (insSh M_eq).den
abbrev Out_eq : Type := (outSh R_eq M_eq).den
abbrev C_eq (pre : In_eq -> Bool) (fn : In_eq -> Out_eq) : Prop := Sound Tryz.prog 204 ⟨M_eq, R_eq, pre, fn⟩
section
variable (g_ce : In_ce -> Out_ce) (g_ep : In_ep -> Out_ep) (p_ep : In_ep -> Bool)
abbrev X_eq : Ctx := ctx tys 13 (conOf [(46, ⟨M_ce, R_ce, fun _ => true, g_ce⟩), (242, ⟨M_ep, R_ep, p_ep, g_ep⟩)]) (keepOf []) (fun _ => [])
noncomputable abbrev E_eq (k : Nat) (x : In_eq) : Option Out_eq := evFn (X_eq g_ce g_ep p_ep) Tryz.f204 R_eq M_eq k x
variable {g_ce g_ep p_ep}
theorem ev_eq (k : Nat) (x0 : Dm (.imm S_TstTest)) (x1 : Dm (.imm S_DecDec)) : E_eq g_ce g_ep p_ep k (x0, x1, ()) =
  (cl (p_ep (x0, ((0 : Int), ((g_ce (x1, ())).1, ((x1, ()), ()))))) (g_ep (x0, ((0 : Int), ((g_ce (x1, ())).1, ((x1, ()), ()))))) fun y0 => (some (y0.1, (y0.2.1, ())))) := by kernel_rfl
theorem S_eq (h_ce : C_ce (fun _ => true) g_ce) (h_ep : C_ep p_ep g_ep) {pre : In_eq -> Bool} {fn : In_eq -> Out_eq} (hev : ∀ x, pre x = true -> ∃ k, E_eq g_ce g_ep p_ep k x = some (fn x)) : C_eq pre fn := sound tysOk mixed (fn := Tryz.f204) rfl rfl rfl (.cons h_ce (.cons h_ep .nil)) _ hev
end
/-! er: iTstCause_c1 -/
abbrev M_er : List Vm.Mode := [.pO S_TstTest, .pR I]
abbrev R_er : List (RK × Sh) := []
abbrev In_er : Type := (insSh M_er).den
abbrev Out_er : Type := (outSh R_er M_er).den
abbrev C_er (pre : In_er -> Bool) (fn : In_er -> Out_er) : Prop := Sound Tryz.prog 244 ⟨M_er, R_er, pre, fn⟩
abbrev X_er : Ctx := ctx tys 7 (conOf []) (keepOf []) (fun _ => [])
noncomputable abbrev E_er (k : Nat) (x : In_er) : Option Out_er := evFn X_er Tryz.f244 R_er M_er k x
theorem ev_er (k : Nat) (x0 : Dm (.pO S_TstTest)) (x1 : Dm (.pR I)) : E_er k (x0, x1, ()) =
  (some ((x0.1, (x0.2.1, (x0.2.2.1, (x1, x0.2.2.2.2)))), ())) := by kernel_rfl
theorem S_er  {pre : In_er -> Bool} {fn : In_er -> Out_er} (hev : ∀ x, pre x = true -> ∃ k, E_er k x = some (fn x)) : C_er pre fn := sound tysOk mixed (fn := Tryz.f244) rfl rfl rfl ConsOk.nil _ hev
/-! es: iturned__iTstCause_c1 -/
abbrev M_es : List Vm.Mode := [.imm S_TstTest, .imm I, .imm .bool, .clo 244 [I]]
abbrev R_es : List (RK × Sh) := [(.own, S_TstTest), (.imm, .bool)]
abbrev In_es : Type := (insSh M_es).den
abbrev Out_es : Type := (outSh R_es M_es).den
abbrev C_es (pre : In_es -> Bool) (fn : In_es -> Out_es) : Prop := Sound Tryz.prog 242 ⟨M_es, R_es, pre, fn⟩
section
variable (g_e5 : In_e5 -> Out_e5) (p_e5 : In_e5 -> Bool) (g_cz : In_cz -> Out_cz) (p_cz : In_cz -> Bool) (g_er : In_er -> Out_er) (p_er : In_er -> Bool) (g_cy : In_cy -> Out_cy) (p_cy : In_cy -> Bool)
abbrev X_es : Ctx := ctx tys 33 (conOf [(147, ⟨M_e5, R_e5, p_e5, g_e5⟩), (189, ⟨M_cz, R_cz, p_cz, g_cz⟩), (244, ⟨M_er, R_er, p_er, g_er⟩), (235, ⟨M_cy, R_cy, p_cy, g_cy⟩)]) (keepOf []) (fun _ => [])
noncomputable abbrev E_es (k : Nat) (x : In_es) : Option Out_es := evFn (X_es g_e5 p_e5 g_cz p_cz g_er p_er g_cy p_cy) Tryz.f242 R_es M_es k x
variable {g_e5 p_e5 g_cz p_cz g_er p_er g_cy p_cy}
theorem ev_es (k : Nat) (x0 : Dm (.imm S_TstTest)) (x1 : Dm (.imm I)) (x2 : Dm (.imm .bool)) (x3 : Dm (.clo 244 [I])) : E_es g_e5 p_e5 g_cz p_cz g_er p_er g_cy p_cy k (x0, x1, x2, x3, ()) =
  (cl (p_e5 (x0, ())) (g_e5 (x0, ())) fun y0 => (cl (p_cz (x0, ())) (g_cz (x0, ())) fun y1 => (bif (bif y1.1 then false else true) then (some (y0.1, (false, ()))) else (bif (bif (decide (x0.2.1 = x1)) then false else true) then (some (y0.1, (false, ()))) else (bif (bif x2 then false else true) then (some (y0.1, (false, ()))) else (cl (p_er (y0.1, (x3.1, ()))) (g_er (y0.1, (x3.1, ()))) fun y2 => (cl (p_cy (y2.1, ())) (g_cy (y2.1, ())) fun y3 => (some ((y2.1.1, (y3.1, y2.1.2.2)), (true, ())))))))))) := by kernel_rfl
theorem S_es (h_e5 : C_e5 p_e5 g_e5) (h_cz : C_cz p_cz g_cz) (h_er : C_er p_er g_er) (h_cy : C_cy p_cy g_cy) {pre : In_es -> Bool} {fn : In_es -> Out_es} (hev : ∀ x, pre x = true -> ∃ k, E_es g_e5 p_e5 g_cz p_cz g_er p_er g_cy p_cy k x = some (fn x)) : C_es pre fn := sound tysOk mixed (fn := Tryz.f242) rfl rfl rfl (.cons h_e5 (.cons h_cz (.cons h_er (.cons h_cy .nil)))) _ hev
end
/-! et: iTstCause -/
abbrev M_et : List Vm.Mode := [.imm S_TstTest, .imm I]
abbrev R_et : List (RK × Sh) := [(.own, S_TstTest), (.imm, .bool)]
abbrev In_et : Type := (insSh M_et).den
abbrev Out_et : Type := (outSh R_et M_et).den
abbrev C_et (pre : In_et -> Bool) (fn : In_et -> Out_et) : Prop := Sound Tryz.prog 205 ⟨M_et, R_et, pre, fn⟩
section
variable (g_iin : In_iin -> Out_iin) (g_es : In_es -> Out_es) (p_es : In_es -> Bool)
abbrev X_et : Ctx := ctx tys 13 (conOf [(41, ⟨M_iin, R_iin, fun _ => true, g_iin⟩), (242, ⟨M_es, R_es, p_es, g_es⟩)]) (keepOf []) (fun _ => [])
noncomputable abbrev E_et (k : Nat) (x : In_et) : Option Out_et := evFn (X_et g_iin g_es p_es) Tryz.f205 R_et M_et k x
variable {g_iin g_es p_es}
theorem ev_et (k : Nat) (x0 : Dm (.imm S_TstTest)) (x1 : Dm (.imm I)) : E_et g_iin g_es p_es k (x0, x1, ()) =
  (cl (p_es (x0, ((1 : Int), ((g_iin (x1, ((1 : Int), ((3 : Int), ())))).1, ((x1, ()), ()))))) (g_es (x0, ((1 : Int), ((g_iin (x1, ((1 : Int), ((3 : Int), ())))).1, ((x1, ()), ()))))) fun y0 => (some (y0.1, (y0.2.1, ())))) := by kernel_rfl
theorem S_et (h_iin : C_iin (fun _ => true) g_iin) (h_es : C_es p_es g_es) {pre : In_et -> Bool} {fn : In_et -> Out_et} (hev : ∀ x, pre x = true -> ∃ k, E_et g_iin g_es p_es k x = some (fn x)) : C_et pre fn := sound tysOk mixed (fn := Tryz.f205) rfl rfl rfl (.cons h_iin (.cons h_es .nil)) _ hev
end
/-! eu: iTstMore_c1 -/
abbrev M_eu : List Vm.Mode := [.pO S_TstTest, .pR S_DecDec]
abbrev R_eu : List (RK × Sh) := []
abbrev In_eu : Type := (insSh M_eu).den
abbrev Out_eu : Type := (outSh R_eu M_eu).den
abbrev C_eu (pre : In_eu -> Bool) (fn : In_eu -> Out_eu) : Prop := Sound Tryz.prog 245 ⟨M_eu, R_eu, pre, fn⟩
abbrev X_eu : Ctx := ctx tys 13 (conOf []) (keepOf []) (fun _ => [])
noncomputable abbrev E_eu (k : Nat) (x : In_eu) : Option Out_eu := evFn X_eu Tryz.f245 R_eu M_eu k x
theorem ev_eu (k : Nat) (x0 : Dm (.pO S_TstTest)) (x1 : Dm (.pR S_DecDec)) : E_eu k (x0, x1, ()) =
  (bif (fitL x0.2.2.2.2 [x1]) then (some ((x0.1, (x0.2.1, (x0.2.2.1, (x0.2.2.2.1, (List.append x0.2.2.2.2 [x1]))))), ())) else none) := by kernel_rfl
theorem S_eu  {pre : In_eu -> Bool} {fn : In_eu -> Out_eu} (hev : ∀ x, pre x = true -> ∃ k, E_eu k x = some (fn x)) : C_eu pre fn := sound tysOk mixed (fn := Tryz.f245) rfl rfl rfl ConsOk.nil _ hev
/-! ev: iturned__iTstMore_c1 -/
abbrev M_ev : List Vm.Mode := [.imm S_TstTest, .imm I, .imm .bool, .clo 245 [S_DecDec]]
abbrev R_ev : List (RK × Sh) := [(.own, S_TstTest), (.imm, .bool)]
abbrev In_ev : Type := (insSh M_ev).den
abbrev Out_ev : Type := (outSh R_ev M_ev).den
abbrev C_ev (pre : In_ev -> Bool) (fn : In_ev -> Out_ev) : Prop := Sound Tryz.prog 242 ⟨M_ev, R_ev, pre, fn⟩
section
variable (g_e5 : In_e5 -> Out_e5) (p_e5 : In_e5 -> Bool) (g_cz : In_cz -> Out_cz) (p_cz : In_cz -> Bool) (g_eu : In_eu -> Out_eu) (p_eu : In_eu -> Bool) (g_cy : In_cy -> Out_cy) (p_cy : In_cy -> Bool)
abbrev X_ev : Ctx := ctx tys 33 (conOf [(147, ⟨M_e5, R_e5, p_e5, g_e5⟩), (189, ⟨M_cz, R_cz, p_cz, g_cz⟩), (245, ⟨M_eu, R_eu, p_eu, g_eu⟩), (235, ⟨M_cy, R_cy, p_cy, g_cy⟩)]) (keepOf []) (fun _ => [])
noncomputable abbrev E_ev (k : Nat) (x : In_ev) : Option Out_ev := evFn (X_ev g_e5 p_e5 g_cz p_cz g_eu p_eu g_cy p_cy) Tryz.f242 R_ev M_ev k x
variable {g_e5 p_e5 g_cz p_cz g_eu p_eu g_cy p_cy}
theorem ev_ev (k : Nat) (x0 : Dm (.imm S_TstTest)) (x1 : Dm (.imm I)) (x2 : Dm (.imm .bool)) (x3 : Dm (.clo 245 [S_DecDec])) : E_ev g_e5 p_e5 g_cz p_cz g_eu p_eu g_cy p_cy k (x0, x1, x2, x3, ()) =
  (cl (p_e5 (x0, ())) (g_e5 (x0, ())) fun y0 => (cl (p_cz (x0, ())) (g_cz (x0, ())) fun y1 => (bif (bif y1.1 then false else true) then (some (y0.1, (false, ()))) else (bif (bif (decide (x0.2.1 = x1)) then false else true) then (some (y0.1, (false, ()))) else (bif (bif x2 then false else true) then (some (y0.1, (false, ()))) else (cl (p_eu (y0.1, (x3.1, ()))) (g_eu (y0.1, (x3.1, ()))) fun y2 => (cl (p_cy (y2.1, ())) (g_cy (y2.1, ())) fun y3 => (some ((y2.1.1, (y3.1, y2.1.2.2)), (true, ())))))))))) := by kernel_rfl
theorem S_ev (h_e5 : C_e5 p_e5 g_e5) (h_cz : C_cz p_cz g_cz) (h_eu : C_eu p_eu g_eu) (h_cy : C_cy p_cy g_cy) {pre : In_ev -> Bool} {fn : In_ev -> Out_ev} (hev : ∀ x, pre x = true -> ∃ k, E_ev g_e5 p_e5 g_cz p_cz g_eu p_eu g_cy p_cy k x = some (fn x)) : C_ev pre fn := sound tysOk mixed (fn := Tryz.f242) rfl rfl rfl (.cons h_e5 (.cons h_cz (.cons h_eu (.cons h_cy .nil)))) _ hev
end
/-! ew: iTstMore -/
abbrev M_ew : List Vm.Mode := [.imm S_TstTest, .imm S_DecDec]
abbrev R_ew : List (RK × Sh) := [(.own, S_TstTest), (.imm, .bool)]
abbrev In_ew : Type := (insSh M_ew).den
abbrev Out_ew : Type := (outSh R_ew M_ew).den
abbrev C_ew (pre : In_ew -> Bool) (fn : In_ew -> Out_ew) : Prop := Sound Tryz.prog 206 ⟨M_ew, R_ew, pre, fn⟩
section
variable (g_ce : In_ce -> Out_ce) (g_ev : In_ev -> Out_ev) (p_ev : In_ev -> Bool)
abbrev X_ew : Ctx := ctx tys 13 (conOf [(46, ⟨M_ce, R_ce, fun _ => true, g_ce⟩), (242, ⟨M_ev, R_ev, p_ev, g_ev⟩)]) (keepOf []) (fun _ => [])
noncomputable abbrev E_ew (k : Nat) (x : In_ew) : Option Out_ew := evFn (X_ew g_ce g_ev p_ev) Tryz.f206 R_ew M_ew k x
variable {g_ce g_ev p_ev}
theorem ev_ew (k : Nat) (x0 : Dm (.imm S_TstTest)) (x1 : Dm (.imm S_DecDec)) : E_ew g_ce g_ev p_ev k (x0, x1, ()) =
  (cl (p_ev (x0, ((2 : Int), ((g_ce (x1, ())).1, ((x1, ()), ()))))) (g_ev (x0, ((2 : Int), ((g_ce (x1, ())).1, ((x1, ()), ()))))) fun y0 => (some (y0.1, (y0.2.1, ())))) := by kernel_rfl
theorem S_ew (h_ce : C_ce (fun _ => true) g_ce) (h_ev : C_ev p_ev g_ev) {pre : In_ew -> Bool} {fn : In_ew -> Out_ew} (hev : ∀ x, pre x = true -> ∃ k, E_ew g_ce g_ev p_ev k x = some (fn x)) : C_ew pre fn := sound tysOk mixed (fn := Tryz.f206) rfl rfl rfl (.cons h_ce (.cons h_ev .nil)) _ hev
end
/-! ex: iBatTest_c1 -/
abbrev M_ex : List Vm.Mode := [.pO S_BatBatch, .pR I, .pR I, .pR S_DecDec, .pR I]
abbrev R_ex : List (RK × Sh) := [(.imm, .bool)]
abbrev In_ex : Type := (insSh M_ex).den
abbrev Out_ex : Type := (outSh R_ex M_ex).den
abbrev C_ex (pre : In_ex -> Bool) (fn : In_ex -> Out_ex) : Prop := Sound Tryz.prog 201 ⟨M_ex, R_ex, pre, fn⟩
section
variable (g_en : In_en -> Out_en) (p_en : In_en -> Bool) (g_eq : In_eq -> Out_eq) (p_eq : In_eq -> Bool) (g_et : In_et -> Out_et) (p_et : In_et -> Bool) (g_ew : In_ew -> Out_ew) (p_ew : In_ew -> Bool)
abbrev X_ex : Ctx := ctx tys 62 (conOf [(202, ⟨M_en, R_en, p_en, g_en⟩), (204, ⟨M_eq, R_eq, p_eq, g_eq⟩), (205, ⟨M_et, R_et, p_et, g_et⟩), (206, ⟨M_ew, R_ew, p_ew, g_ew⟩)]) (keepOf []) (fun _ => [])
noncomputable abbrev E_ex (k : Nat) (x : In_ex) : Option Out_ex := evFn (X_ex g_en p_en g_eq p_eq g_et p_et g_ew p_ew) Tryz.f201 R_ex M_ex k x
variable {g_en p_en g_eq p_eq g_et p_et g_ew p_ew}
theorem ev_ex (k : Nat) (x0 : Dm (.pO S_BatBatch)) (x1 : Dm (.pR I)) (x2 : Dm (.pR I)) (x3 : Dm (.pR S_DecDec)) (x4 : Dm (.pR I)) : E_ex g_en p_en g_eq p_eq g_et p_et g_ew p_ew k (x0, x1, x2, x3, x4, ()) =
  (cl (p_en (x0.2.2.1, ((x1, ()), ()))) (g_en (x0.2.2.1, ((x1, ()), ()))) fun y0 => (lt (rdL (e := S_TstTest) x0.2.2.1 y0.1) fun s0 => (bif (decide (y0.1 < (0 : Int))) then (some (false, (x0, ()))) else (bif (bif (decide ((0 : Int) <= y0.1)) then (decide (y0.1 < (List.length x0.2.2.1 : Int))) else false) then (bif (decide (x2 = (1 : Int))) then (cl (p_eq (s0, (x3, ()))) (g_eq (s0, (x3, ()))) fun y1 => (some (y1.2.1, ((x0.1, (x0.2.1, ((List.set x0.2.2.1 (Int.toNat y0.1) y1.1), x0.2.2.2))), ())))) else (bif (decide (x2 = (2 : Int))) then (cl (p_et (s0, (x4, ()))) (g_et (s0, (x4, ()))) fun y2 => (some (y2.2.1, ((x0.1, (x0.2.1, ((List.set x0.2.2.1 (Int.toNat y0.1) y2.1), x0.2.2.2))), ())))) else (bif (decide (x2 = (3 : Int))) then (cl (p_ew (s0, (x3, ()))) (g_ew (s0, (x3, ()))) fun y3 => (some (y3.2.1, ((x0.1, (x0.2.1, ((List.set x0.2.2.1 (Int.toNat y0.1) y3.1), x0.2.2.2))), ())))) else (some (false, (x0, ())))))) else none)))) := by kernel_rfl
theorem S_ex (h_en : C_en p_en g_en) (h_eq : C_eq p_eq g_eq) (h_et : C_et p_et g_et) (h_ew : C_ew p_ew g_ew) {pre : In_ex -> Bool} {fn : In_ex -> Out_ex} (hev : ∀ x, pre x = true -> ∃ k, E_ex g_en p_en g_eq p_eq g_et p_et g_ew p_ew k x = some (fn x)) : C_ex pre fn := sound tysOk mixed (fn := Tryz.f201) rfl rfl rfl (.cons h_en (.cons h_eq (.cons h_et (.cons h_ew .nil)))) _ hev
end
/-! ey: iBatBatch_open__iBatTest_c1 -/
abbrev M_ey : List Vm.Mode := [.imm S_BatBatch, .clo 201 [I, I, S_DecDec, I]]
abbrev R_ey : List (RK × Sh) := [(.own, S_BatBatch), (.imm, .bool)]
abbrev In_ey : Type := (insSh M_ey).den
abbrev Out_ey : Type := (outSh R_ey M_ey).den
abbrev C_ey (pre : In_ey -> Bool) (fn : In_ey -> Out_ey) : Prop := Sound Tryz.prog 200 ⟨M_ey, R_ey, pre, fn⟩
section
variable (g_e8 : In_e8 -> Out_e8) (p_e8 : In_e8 -> Bool) (g_di : In_di -> Out_di) (p_di : In_di -> Bool) (g_ex : In_ex -> Out_ex) (p_ex : In_ex -> Bool)
abbrev X_ey : Ctx := ctx tys 23 (conOf [(87, ⟨M_e8, R_e8, p_e8, g_e8⟩), (139, ⟨M_di, R_di, p_di, g_di⟩), (201, ⟨M_ex, R_ex, p_ex, g_ex⟩)]) (keepOf []) (fun _ => [])
noncomputable abbrev E_ey (k : Nat) (x : In_ey) : Option Out_ey := evFn (X_ey g_e8 p_e8 g_di p_di g_ex p_ex) Tryz.f200 R_ey M_ey k x
variable {g_e8 p_e8 g_di p_di g_ex p_ex}
theorem ev_ey (k : Nat) (x0 : Dm (.imm S_BatBatch)) (x1 : Dm (.clo 201 [I, I, S_DecDec, I])) : E_ey g_e8 p_e8 g_di p_di g_ex p_ex k (x0, x1, ()) =
  (cl (p_e8 (x0, ())) (g_e8 (x0, ())) fun y0 => (cl (p_di (x0, ())) (g_di (x0, ())) fun y1 => (bif (bif y1.1 then false else true) then (some (y0.1, (false, ()))) else (bif (bif (decide (x0.2.2.2.1 = (1 : Int))) then false else true) then (some (y0.1, (false, ()))) else (cl (p_ex (y0.1, (x1.1, (x1.2.1, (x1.2.2.1, (x1.2.2.2.1, ())))))) (g_ex (y0.1, (x1.1, (x1.2.1, (x1.2.2.1, (x1.2.2.2.1, ())))))) fun y2 => (some (y2.2.1, (y2.1, ())))))))) := by kernel_rfl
theorem S_ey (h_e8 : C_e8 p_e8 g_e8) (h_di : C_di p_di g_di) (h_ex : C_ex p_ex g_ex) {pre : In_ey -> Bool} {fn : In_ey -> Out_ey} (hev : ∀ x, pre x = true -> ∃ k, E_ey g_e8 p_e8 g_di p_di g_ex p_ex k x = some (fn x)) : C_ey pre fn := sound tysOk mixed (fn := Tryz.f200) rfl rfl rfl (.cons h_e8 (.cons h_di (.cons h_ex .nil))) _ hev
end
/-! ez: iBatTest -/
abbrev M_ez : List Vm.Mode := [.imm S_BatBatch, .imm I, .imm I, .imm S_DecDec, .imm I]
abbrev R_ez : List (RK × Sh) := [(.own, S_BatBatch), (.imm, .bool)]
abbrev In_ez : Type := (insSh M_ez).den
abbrev Out_ez : Type := (outSh R_ez M_ez).den
abbrev C_ez (pre : In_ez -> Bool) (fn : In_ez -> Out_ez) : Prop := Sound Tryz.prog 153 ⟨M_ez, R_ez, pre, fn⟩
section
variable (g_ey : In_ey -> Out_ey) (p_ey : In_ey -> Bool)
abbrev X_ez : Ctx := ctx tys 17 (conOf [(200, ⟨M_ey, R_ey, p_ey, g_ey⟩)]) (keepOf []) (fun _ => [])
noncomputable abbrev E_ez (k : Nat) (x : In_ez) : Option Out_ez := evFn (X_ez g_ey p_ey) Tryz.f153 R_ez M_ez k x
variable {g_ey p_ey}
theorem ev_ez (k : Nat) (x0 : Dm (.imm S_BatBatch)) (x1 : Dm (.imm I)) (x2 : Dm (.imm I)) (x3 : Dm (.imm S_DecDec)) (x4 : Dm (.imm I)) : E_ez g_ey p_ey k (x0, x1, x2, x3, x4, ()) =
  (cl (p_ey (x0, ((x1, (x2, (x3, (x4, ())))), ()))) (g_ey (x0, ((x1, (x2, (x3, (x4, ())))), ()))) fun y0 => (some (y0.1, (y0.2.1, ())))) := by kernel_rfl
theorem S_ez (h_ey : C_ey p_ey g_ey) {pre : In_ez -> Bool} {fn : In_ez -> Out_ez} (hev : ∀ x, pre x = true -> ∃ k, E_ez g_ey p_ey k x = some (fn x)) : C_ez pre fn := sound tysOk mixed (fn := Tryz.f153) rfl rfl rfl (.cons h_ey .nil) _ hev
end
/-! f0: iBatDev_c1 -/
abbrev M_f0 : List Vm.Mode := [.pO S_BatBatch, .pR .bool, .pR I]
abbrev R_f0 : List (RK × Sh) := [(.imm, .bool)]
abbrev In_f0 : Type := (insSh M_f0).den
abbrev Out_f0 : Type := (outSh R_f0 M_f0).den
abbrev C_f0 (pre : In_f0 -> Bool) (fn : In_f0 -> Out_f0) : Prop := Sound Tryz.prog 207 ⟨M_f0, R_f0, pre, fn⟩
section
variable (g_iin : In_iin -> Out_iin)
abbrev X_f0 : Ctx := ctx tys 55 (conOf [(41, ⟨M_iin, R_iin, fun _ => true, g_iin⟩)]) (keepOf []) (fun _ => [])
noncomputable abbrev E_f0 (k : Nat) (x : In_f0) : Option Out_f0 := evFn (X_f0 g_iin) Tryz.f207 R_f0 M_f0 k x
variable {g_iin}
theorem ev_f0 (k : Nat) (x0 : Dm (.pO S_BatBatch)) (x1 : Dm (.pR .bool)) (x2 : Dm (.pR I)) : E_f0 g_iin k (x0, x1, x2, ()) =
  (bif x1 then (bif (decide (x2 = (List.length x0.2.2.2.2.2 : Int))) then (bif (decide (x2 < (3 : Int))) then (bif (fitL x0.2.2.2.2.2 [true]) then (some (true, ((x0.1, (x0.2.1, (x0.2.2.1, (x0.2.2.2.1, (x0.2.2.2.2.1, (List.append x0.2.2.2.2.2 [true])))))), ()))) else none) else (bif (bif x1 then false else true) then (bif (g_iin (x2, ((0 : Int), ((w64 ((List.length x0.2.2.2.2.2 : Int) - (1 : Int))), ())))).1 then (bif (bif (decide ((0 : Int) <= x2)) then (decide (x2 < (List.length x0.2.2.2.2.2 : Int))) else false) then (bif (rdL (e := Sh.bool) x0.2.2.2.2.2 x2) then (bif (bif (decide ((0 : Int) <= x2)) then (decide (x2 < (List.length x0.2.2.2.2.2 : Int))) else false) then (some (true, ((x0.1, (x0.2.1, (x0.2.2.1, (x0.2.2.2.1, (x0.2.2.2.2.1, (List.set x0.2.2.2.2.2 (Int.toNat x2) false)))))), ()))) else none) else (some (false, (x0, ())))) else none) else (some (false, (x0, ())))) else (some (false, (x0, ()))))) else (bif (bif x1 then false else true) then (bif (g_iin (x2, ((0 : Int), ((w64 ((List.length x0.2.2.2.2.2 : Int) - (1 : Int))), ())))).1 then (bif (bif (decide ((0 : Int) <= x2)) then (decide (x2 < (List.length x0.2.2.2.2.2 : Int))) else false) then (bif (rdL (e := Sh.bool) x0.2.2.2.2.2 x2) then (bif (bif (decide ((0 : Int) <= x2)) then (decide (x2 < (List.length x0.2.2.2.2.2 : Int))) else false) then (some (true, ((x0.1, (x0.2.1, (x0.2.2.1, (x0.2.2.2.1, (x0.2.2.2.2.1, (List.set x0.2.2.2.2.2 (Int.toNat x2) false)))))), ()))) else none) else (some (false, (x0, ())))) else none) else (some (false, (x0, ())))) else (some (false, (x0, ()))))) else (bif (bif x1 then false else true) then (bif (g_iin (x2, ((0 : Int), ((w64 ((List.length x0.2.2.2.2.2 : Int) - (1 : Int))), ())))).1 then (bif (bif (decide ((0 : Int) <= x2)) then (decide (x2 < (List.length x0.2.2.2.2.2 : Int))) else false) then (bif (rdL (e := Sh.bool) x0.2.2.2.2.2 x2) then (bif (bif (decide ((0 : Int) <= x2)) then (decide (x2 < (List.length x0.2.2.2.2.2 : Int))) else false) then (some (true, ((x0.1, (x0.2.1, (x0.2.2.1, (x0.2.2.2.1, (x0.2.2.2.2.1, (List.set x0.2.2.2.2.2 (Int.toNat x2) false)))))), ()))) else none) else (some (false, (x0, ())))) else none) else (some (false, (x0, ())))) else (some (false, (x0, ()))))) := by kernel_rfl
theorem S_f0 (h_iin : C_iin (fun _ => true) g_iin) {pre : In_f0 -> Bool} {fn : In_f0 -> Out_f0} (hev : ∀ x, pre x = true -> ∃ k, E_f0 g_iin k x = some (fn x)) : C_f0 pre fn := sound tysOk mixed (fn := Tryz.f207) rfl rfl rfl (.cons h_iin .nil) _ hev
end
/-! f1: iBatBatch_open__iBatDev_c1 -/
abbrev M_f1 : List Vm.Mode := [.imm S_BatBatch, .clo 207 [.bool, I]]
abbrev R_f1 : List (RK × Sh) := [(.own, S_BatBatch), (.imm, .bool)]
abbrev In_f1 : Type := (insSh M_f1).den
abbrev Out_f1 : Type := (outSh R_f1 M_f1).den
abbrev C_f1 (pre : In_f1 -> Bool) (fn : In_f1 -> Out_f1) : Prop := Sound Tryz.prog 200 ⟨M_f1, R_f1, pre, fn⟩
section
variable (g_e8 : In_e8 -> Out_e8) (p_e8 : In_e8 -> Bool) (g_di : In_di -> Out_di) (p_di : In_di -> Bool) (g_f0 : In_f0 -> Out_f0) (p_f0 : In_f0 -> Bool)
abbrev X_f1 : Ctx := ctx tys 23 (conOf [(87, ⟨M_e8, R_e8, p_e8, g_e8⟩), (139, ⟨M_di, R_di, p_di, g_di⟩), (207, ⟨M_f0, R_f0, p_f0, g_f0⟩)]) (keepOf []) (fun _ => [])
noncomputable abbrev E_f1 (k : Nat) (x : In_f1) : Option Out_f1 := evFn (X_f1 g_e8 p_e8 g_di p_di g_f0 p_f0) Tryz.f200 R_f1 M_f1 k x
variable {g_e8 p_e8 g_di p_di g_f0 p_f0}
theorem ev_f1 (k : Nat) (x0 : Dm (.imm S_BatBatch)) (x1 : Dm (.clo 207 [.bool, I])) : E_f1 g_e8 p_e8 g_di p_di g_f0 p_f0 k (x0, x1, ()) =
  (cl (p_e8 (x0, ())) (g_e8 (x0, ())) fun y0 => (cl (p_di (x0, ())) (g_di (x0, ())) fun y1 => (bif (bif y1.1 then false else true) then (some (y0.1, (false, ()))) else (bif (bif (decide (x0.2.2.2.1 = (1 : Int))) then false else true) then (some (y0.1, (false, ()))) else (cl (p_f0 (y0.1, (x1.1, (x1.2.1, ())))) (g_f0 (y0.1, (x1.1, (x1.2.1, ())))) fun y2 => (some (y2.2.1, (y2.1, ())))))))) := by kernel_rfl
theorem S_f1 (h_e8 : C_e8 p_e8 g_e8) (h_di : C_di p_di g_di) (h_f0 : C_f0 p_f0 g_f0) {pre : In_f1 -> Bool} {fn : In_f1 -> Out_f1} (hev : ∀ x, pre x = true -> ∃ k, E_f1 g_e8 p_e8 g_di p_di g_f0 p_f0 k x = some (fn x)) : C_f1 pre fn := sound tysOk mixed (fn := Tryz.f200) rfl rfl rfl (.cons h_e8 (.cons h_di (.cons h_f0 .nil))) _ hev
end
/-! f2: iBatDev -/
abbrev M_f2 : List Vm.Mode := [.imm S_BatBatch, .imm I, .imm .bool]
abbrev R_f2 : List (RK × Sh) := [(.own, S_BatBatch), (.imm, .bool)]
abbrev In_f2 : Type := (insSh M_f2).den
abbrev Out_f2 : Type := (outSh R_f2 M_f2).den
abbrev C_f2 (pre : In_f2 -> Bool) (fn : In_f2 -> Out_f2) : Prop := Sound Tryz.prog 154 ⟨M_f2, R_f2, pre, fn⟩
section
variable (g_f1 : In_f1 -> Out_f1) (p_f1 : In_f1 -> Bool)
abbrev X_f2 : Ctx := ctx tys 13 (conOf [(200, ⟨M_f1, R_f1, p_f1, g_f1⟩)]) (keepOf []) (fun _ => [])
noncomputable abbrev E_f2 (k : Nat) (x : In_f2) : Option Out_f2 := evFn (X_f2 g_f1 p_f1) Tryz.f154 R_f2 M_f2 k x
variable {g_f1 p_f1}
theorem ev_f2 (k : Nat) (x0 : Dm (.imm S_BatBatch)) (x1 : Dm (.imm I)) (x2 : Dm (.imm .bool)) : E_f2 g_f1 p_f1 k (x0, x1, x2, ()) =
  (cl (p_f1 (x0, ((x2, (x1, ())), ()))) (g_f1 (x0, ((x2, (x1, ())), ()))) fun y0 => (some (y0.1, (y0.2.1, ())))) := by kernel_rfl
theorem S_f2 (h_f1 : C_f1 p_f1 g_f1) {pre : In_f2 -> Bool} {fn : In_f2 -> Out_f2} (hev : ∀ x, pre x = true -> ∃ k, E_f2 g_f1 p_f1 k x = some (fn x)) : C_f2 pre fn := sound tysOk mixed (fn := Tryz.f154) rfl rfl rfl (.cons h_f1 .nil) _ hev
end
/-! f3: iBatSign_c1 -/
abbrev M_f3 : List Vm.Mode := [.pO S_BatBatch, .pR I, .pR I, .pR S_BatBatch]
abbrev R_f3 : List (RK × Sh) := [(.imm, .bool)]
abbrev In_f3 : Type := (insSh M_f3).den
abbrev Out_f3 : Type := (outSh R_f3 M_f3).den
abbrev C_f3 (pre : In_f3 -> Bool) (fn : In_f3 -> Out_f3) : Prop := Sound Tryz.prog 208 ⟨M_f3, R_f3, pre, fn⟩
section
variable (g_d0 : In_d0 -> Out_d0) (g_d1 : In_d1 -> Out_d1) (g_dc : In_dc -> Out_dc) (p_dc : In_dc -> Bool)
abbrev X_f3 : Ctx := ctx tys 36 (conOf [(48, ⟨M_d0, R_d0, fun _ => true, g_d0⟩), (209, ⟨M_d1, R_d1, fun _ => true, g_d1⟩), (210, ⟨M_dc, R_dc, p_dc, g_dc⟩)]) (keepOf []) (fun _ => [])
noncomputable abbrev E_f3 (k : Nat) (x : In_f3) : Option Out_f3 := evFn (X_f3 g_d0 g_d1 g_dc p_dc) Tryz.f208 R_f3 M_f3 k x
variable {g_d0 g_d1 g_dc p_dc}
theorem ev_f3 (k : Nat) (x0 : Dm (.pO S_BatBatch)) (x1 : Dm (.pR I)) (x2 : Dm (.pR I)) (x3 : Dm (.pR S_BatBatch)) : E_f3 g_d0 g_d1 g_dc p_dc k (x0, x1, x2, x3, ()) =
  (bif (bif (g_d0 (x1, ())).1 then false else true) then (some (false, (x0, ()))) else (bif (bif (g_d1 (x2, ())).1 then false else true) then (some (false, (x0, ()))) else (bif (decide ((List.length x0.2.2.2.2.1 : Int) = (6 : Int))) then (some (false, (x0, ()))) else (cl (p_dc (x3, ())) (g_dc (x3, ())) fun y0 => (bif (fitL x0.2.2.2.2.1 [(x1, (x2, y0.1))]) then (some (true, ((x0.1, (x0.2.1, (x0.2.2.1, (x0.2.2.2.1, ((List.append x0.2.2.2.2.1 [(x1, (x2, y0.1))]), x0.2.2.2.2.2))))), ()))) else none))))) := by kernel_rfl
theorem S_f3 (h_d0 : C_d0 (fun _ => true) g_d0) (h_d1 : C_d1 (fun _ => true) g_d1) (h_dc : C_dc p_dc g_dc) {pre : In_f3 -> Bool} {fn : In_f3 -> Out_f3} (hev : ∀ x, pre x = true -> ∃ k, E_f3 g_d0 g_d1 g_dc p_dc k x = some (fn x)) : C_f3 pre fn := sound tysOk mixed (fn := Tryz.f208) rfl rfl rfl (.cons h_d0 (.cons h_d1 (.cons h_dc .nil))) _ hev
end
/-! f4: iBatBatch_open__iBatSign_c1 -/
abbrev M_f4 : List Vm.Mode := [.imm S_BatBatch, .clo 208 [I, I, S_BatBatch]]
abbrev R_f4 : List (RK × Sh) := [(.own, S_BatBatch), (.imm, .bool)]
abbrev In_f4 : Type := (insSh M_f4).den
abbrev Out_f4 : Type := (outSh R_f4 M_f4).den
abbrev C_f4 (pre : In_f4 -> Bool) (fn : In_f4 -> Out_f4) : Prop := Sound Tryz.prog 200 ⟨M_f4, R_f4, pre, fn⟩
section
variable (g_e8 : In_e8 -> Out_e8) (p_e8 : In_e8 -> Bool) (g_di : In_di -> Out_di) (p_di : In_di -> Bool) (g_f3 : In_f3 -> Out_f3) (p_f3 : In_f3 -> Bool)
abbrev X_f4 : Ctx := ctx tys 23 (conOf [(87, ⟨M_e8, R_e8, p_e8, g_e8⟩), (139, ⟨M_di, R_di, p_di, g_di⟩), (208, ⟨M_f3, R_f3, p_f3, g_f3⟩)]) (keepOf []) (fun _ => [])
noncomputable abbrev E_f4 (k : Nat) (x : In_f4) : Option Out_f4 := evFn (X_f4 g_e8 p_e8 g_di p_di g_f3 p_f3) Tryz.f200 R_f4 M_f4 k x
variable {g_e8 p_e8 g_di p_di g_f3 p_f3}
theorem ev_f4 (k : Nat) (x0 : Dm (.imm S_BatBatch)) (x1 : Dm (.clo 208 [I, I, S_BatBatch])) : E_f4 g_e8 p_e8 g_di p_di g_f3 p_f3 k (x0, x1, ()) =
  (cl (p_e8 (x0, ())) (g_e8 (x0, ())) fun y0 => (cl (p_di (x0, ())) (g_di (x0, ())) fun y1 => (bif (bif y1.1 then false else true) then (some (y0.1, (false, ()))) else (bif (bif (decide (x0.2.2.2.1 = (1 : Int))) then false else true) then (some (y0.1, (false, ()))) else (cl (p_f3 (y0.1, (x1.1, (x1.2.1, (x1.2.2.1, ()))))) (g_f3 (y0.1, (x1.1, (x1.2.1, (x1.2.2.1, ()))))) fun y2 => (some (y2.2.1, (y2.1, ())))))))) := by kernel_rfl
theorem S_f4 (h_e8 : C_e8 p_e8 g_e8) (h_di : C_di p_di g_di) (h_f3 : C_f3 p_f3 g_f3) {pre : In_f4 -> Bool} {fn : In_f4 -> Out_f4} (hev : ∀ x, pre x = true -> ∃ k, E_f4 g_e8 p_e8 g_di p_di g_f3 p_f3 k x = some (fn x)) : C_f4 pre fn := sound tysOk mixed (fn := Tryz.f200) rfl rfl rfl (.cons h_e8 (.cons h_di (.cons h_f3 .nil))) _ hev
end
/-! f5: iBatSign -/
abbrev M_f5 : List Vm.Mode := [.imm S_BatBatch, .imm I, .imm I]
abbrev R_f5 : List (RK × Sh) := [(.own, S_BatBatch), (.imm, .bool)]
abbrev In_f5 : Type := (insSh M_f5).den
abbrev Out_f5 : Type := (outSh R_f5 M_f5).den
abbrev C_f5 (pre : In_f5 -> Bool) (fn : In_f5 -> Out_f5) : Prop := Sound Tryz.prog 155 ⟨M_f5, R_f5, pre, fn⟩
section
variable (g_f4 : In_f4 -> Out_f4) (p_f4 : In_f4 -> Bool)
abbrev X_f5 : Ctx := ctx tys 13 (conOf [(200, ⟨M_f4, R_f4, p_f4, g_f4⟩)]) (keepOf []) (fun _ => [])
noncomputable abbrev E_f5 (k : Nat) (x : In_f5) : Option Out_f5 := evFn (X_f5 g_f4 p_f4) Tryz.f155 R_f5 M_f5 k x
variable {g_f4 p_f4}
theorem ev_f5 (k : Nat) (x0 : Dm (.imm S_BatBatch)) (x1 : Dm (.imm I)) (x2 : Dm (.imm I)) : E_f5 g_f4 p_f4 k (x0, x1, x2, ()) =
  (cl (p_f4 (x0, ((x1, (x2, (x0, ()))), ()))) (g_f4 (x0, ((x1, (x2, (x0, ()))), ()))) fun y0 => (some (y0.1, (y0.2.1, ())))) := by kernel_rfl
theorem S_f5 (h_f4 : C_f4 p_f4 g_f4) {pre : In_f5 -> Bool} {fn : In_f5 -> Out_f5} (hev : ∀ x, pre x = true -> ∃ k, E_f5 g_f4 p_f4 k x = some (fn x)) : C_f5 pre fn := sound tysOk mixed (fn := Tryz.f155) rfl rfl rfl (.cons h_f4 .nil) _ hev
end
/-! f6: iBatMove -/
abbrev M_f6 : List Vm.Mode := [.imm S_BatBatch, .imm I]
abbrev R_f6 : List (RK × Sh) := [(.own, S_BatBatch), (.imm, .bool)]
abbrev In_f6 : Type := (insSh M_f6).den
abbrev Out_f6 : Type := (outSh R_f6 M_f6).den
abbrev C_f6 (pre : In_f6 -> Bool) (fn : In_f6 -> Out_f6) : Prop := Sound Tryz.prog 156 ⟨M_f6, R_f6, pre, fn⟩
section
variable (g_e8 : In_e8 -> Out_e8) (p_e8 : In_e8 -> Bool) (g_dh : In_dh -> Out_dh) (p_dh : In_dh -> Bool) (g_di : In_di -> Out_di) (p_di : In_di -> Bool)
abbrev X_f6 : Ctx := ctx tys 45 (conOf [(87, ⟨M_e8, R_e8, p_e8, g_e8⟩), (192, ⟨M_dh, R_dh, p_dh, g_dh⟩), (139, ⟨M_di, R_di, p_di, g_di⟩)]) (keepOf []) (fun _ => [])
noncomputable abbrev E_f6 (k : Nat) (x : In_f6) : Option Out_f6 := evFn (X_f6 g_e8 p_e8 g_dh p_dh g_di p_di) Tryz.f156 R_f6 M_f6 k x
variable {g_e8 p_e8 g_dh p_dh g_di p_di}
theorem ev_f6 (k : Nat) (x0 : Dm (.imm S_BatBatch)) (x1 : Dm (.imm I)) : E_f6 g_e8 p_e8 g_dh p_dh g_di p_di k (x0, x1, ()) =
  (cl (p_e8 (x0, ())) (g_e8 (x0, ())) fun y0 => (bif (decide (x0.2.2.2.1 = (1 : Int))) then (bif (decide (x1 = (3 : Int))) then (cl (p_di (x0, ())) (g_di (x0, ())) fun y1 => (bif (bif y1.1 then false else true) then (some (y0.1, (false, ()))) else (some ((y0.1.1, (y0.1.2.1, (y0.1.2.2.1, (x1, y0.1.2.2.2.2)))), (true, ()))))) else (bif (decide (x1 = (2 : Int))) then (cl (p_dh (x0, ())) (g_dh (x0, ())) fun y2 => (bif y2.1 then (cl (p_di (x0, ())) (g_di (x0, ())) fun y3 => (bif (bif y3.1 then false else true) then (some (y0.1, (false, ()))) else (some ((y0.1.1, (y0.1.2.1, (y0.1.2.2.1, (x1, y0.1.2.2.2.2)))), (true, ()))))) else (bif (decide (x0.2.2.2.1 = (2 : Int))) then (cl (p_di (x0, ())) (g_di (x0, ())) fun y4 => (bif (bif y4.1 then false else true) then (some (y0.1, (false, ()))) else (bif (bif (decide (x1 = (4 : Int))) then false else true) then (some (y0.1, (false, ()))) else (some ((y0.1.1, (y0.1.2.1, (y0.1.2.2.1, (x1, y0.1.2.2.2.2)))), (true, ())))))) else (cl (p_di (x0, ())) (g_di (x0, ())) fun y5 => (bif (bif y5.1 then false else true) then (some (y0.1, (false, ()))) else (some (y0.1, (false, ())))))))) else (bif (decide (x0.2.2.2.1 = (2 : Int))) then (cl (p_di (x0, ())) (g_di (x0, ())) fun y6 => (bif (bif y6.1 then false else true) then (some (y0.1, (false, ()))) else (bif (bif (decide (x1 = (4 : Int))) then false else true) then (some (y0.1, (false, ()))) else (some ((y0.1.1, (y0.1.2.1, (y0.1.2.2.1, (x1, y0.1.2.2.2.2)))), (true, ())))))) else (cl (p_di (x0, ())) (g_di (x0, ())) fun y7 => (bif (bif y7.1 then false else true) then (some (y0.1, (false, ()))) else (some (y0.1, (false, ())))))))) else (bif (decide (x0.2.2.2.1 = (2 : Int))) then (cl (p_di (x0, ())) (g_di (x0, ())) fun y8 => (bif (bif y8.1 then false else true) then (some (y0.1, (false, ()))) else (bif (bif (decide (x1 = (4 : Int))) then false else true) then (some (y0.1, (false, ()))) else (some ((y0.1.1, (y0.1.2.1, (y0.1.2.2.1, (x1, y0.1.2.2.2.2)))), (true, ())))))) else (cl (p_di (x0, ())) (g_di (x0, ())) fun y9 => (bif (bif y9.1 then false else true) then (some (y0.1, (false, ()))) else (some (y0.1, (false, ())))))))) := by kernel_rfl
theorem S_f6 (h_e8 : C_e8 p_e8 g_e8) (h_dh : C_dh p_dh g_dh) (h_di : C_di p_di g_di) {pre : In_f6 -> Bool} {fn : In_f6 -> Out_f6} (hev : ∀ x, pre x = true -> ∃ k, E_f6 g_e8 p_e8 g_dh p_dh g_di p_di k x = some (fn x)) : C_f6 pre fn := sound tysOk mixed (fn := Tryz.f156) rfl rfl rfl (.cons h_e8 (.cons h_dh (.cons h_di .nil))) _ hev
end
/-! f7: iHouHouse_turn -/
abbrev M_f7 : List Vm.Mode := [.pO S_HouHouse, .imm S_ReqReq]
abbrev R_f7 : List (RK × Sh) := [(.imm, I)]
abbrev In_f7 : Type := (insSh M_f7).den
abbrev Out_f7 : Type := (outSh R_f7 M_f7).den
abbrev C_f7 (pre : In_f7 -> Bool) (fn : In_f7 -> Out_f7) : Prop := Sound Tryz.prog 93 ⟨M_f7, R_f7, pre, fn⟩
section
variable (g_ez : In_ez -> Out_ez) (p_ez : In_ez -> Bool) (g_f2 : In_f2 -> Out_f2) (p_f2 : In_f2 -> Bool) (g_f5 : In_f5 -> Out_f5) (p_f5 : In_f5 -> Bool) (g_f6 : In_f6 -> Out_f6) (p_f6 : In_f6 -> Bool) (g_ee : In_ee -> Out_ee)
abbrev X_f7 : Ctx := ctx tys 156 (conOf [(153, ⟨M_ez, R_ez, p_ez, g_ez⟩), (154, ⟨M_f2, R_f2, p_f2, g_f2⟩), (155, ⟨M_f5, R_f5, p_f5, g_f5⟩), (156, ⟨M_f6, R_f6, p_f6, g_f6⟩), (90, ⟨M_ee, R_ee, fun _ => true, g_ee⟩)]) (keepOf []) (fun _ => [])
noncomputable abbrev E_f7 (k : Nat) (x : In_f7) : Option Out_f7 := evFn (X_f7 g_ez p_ez g_f2 p_f2 g_f5 p_f5 g_f6 p_f6 g_ee) Tryz.f93 R_f7 M_f7 k x
variable {g_ez p_ez g_f2 p_f2 g_f5 p_f5 g_f6 p_f6 g_ee}
theorem ev_f7 (k : Nat) (x0 : Dm (.pO S_HouHouse)) (x1 : Dm (.imm S_ReqReq)) : E_f7 g_ez p_ez g_f2 p_f2 g_f5 p_f5 g_f6 p_f6 g_ee k (x0, x1, ()) =
  (lt (rdL (e := S_BatBatch) x0.2.2 x1.2.2.1) fun s1 => (lt (w64 (x1.1 - (1 : Int))) fun s0 => (bif (decide ((List.length x0.2.2 : Int) <= x1.2.2.1)) then (some ((3 : Int), (x0, ()))) else (bif (bif (decide ((0 : Int) <= x1.2.2.1)) then (decide (x1.2.2.1 < (List.length x0.2.2 : Int))) else false) then (bif (decide (x1.2.1 = (4 : Int))) then (cl (p_ez (s1, (x1.2.2.2.1, ((1 : Int), (x1.2.2.2.2.2.1, ((0 : Int), ())))))) (g_ez (s1, (x1.2.2.2.1, ((1 : Int), (x1.2.2.2.2.2.1, ((0 : Int), ())))))) fun y0 => (some ((g_ee (y0.2.1, ((5 : Int), ()))).1, ((x0.1, (x0.2.1, (List.set x0.2.2 (Int.toNat x1.2.2.1) y0.1))), ())))) else (bif (decide (x1.2.1 = (5 : Int))) then (cl (p_ez (s1, (x1.2.2.2.1, ((2 : Int), (((0 : Int), (0 : Int)), (x1.2.2.2.2.1, ())))))) (g_ez (s1, (x1.2.2.2.1, ((2 : Int), (((0 : Int), (0 : Int)), (x1.2.2.2.2.1, ())))))) fun y1 => (some ((g_ee (y1.2.1, ((5 : Int), ()))).1, ((x0.1, (x0.2.1, (List.set x0.2.2 (Int.toNat x1.2.2.1) y1.1))), ())))) else (bif (decide (x1.2.1 = (6 : Int))) then (cl (p_ez (s1, (x1.2.2.2.1, ((3 : Int), (x1.2.2.2.2.2.1, ((0 : Int), ())))))) (g_ez (s1, (x1.2.2.2.1, ((3 : Int), (x1.2.2.2.2.2.1, ((0 : Int), ())))))) fun y2 => (some ((g_ee (y2.2.1, ((5 : Int), ()))).1, ((x0.1, (x0.2.1, (List.set x0.2.2 (Int.toNat x1.2.2.1) y2.1))), ())))) else (bif (decide (x1.2.1 = (7 : Int))) then (cl (p_f2 (s1, ((List.length s1.2.2.2.2.2 : Int), (true, ())))) (g_f2 (s1, ((List.length s1.2.2.2.2.2 : Int), (true, ())))) fun y3 => (some ((g_ee (y3.2.1, ((5 : Int), ()))).1, ((x0.1, (x0.2.1, (List.set x0.2.2 (Int.toNat x1.2.2.1) y3.1))), ())))) else (bif (decide (x1.2.1 = (8 : Int))) then (cl (p_f2 (s1, (x1.2.2.2.2.1, (false, ())))) (g_f2 (s1, (x1.2.2.2.2.1, (false, ())))) fun y4 => (some ((g_ee (y4.2.1, ((5 : Int), ()))).1, ((x0.1, (x0.2.1, (List.set x0.2.2 (Int.toNat x1.2.2.1) y4.1))), ())))) else (bif (decide (x1.2.1 = (9 : Int))) then (bif (bif (decide ((0 : Int) <= s0)) then (decide (s0 < (List.length x0.1 : Int))) else false) then (cl (p_f5 (s1, (x1.1, ((rdL (e := I) x0.1 s0), ())))) (g_f5 (s1, (x1.1, ((rdL (e := I) x0.1 s0), ())))) fun y5 => (some ((g_ee (y5.2.1, ((5 : Int), ()))).1, ((x0.1, (x0.2.1, (List.set x0.2.2 (Int.toNat x1.2.2.1) y5.1))), ())))) else none) else (bif (decide (x1.2.1 = (10 : Int))) then (cl (p_f6 (s1, ((2 : Int), ()))) (g_f6 (s1, ((2 : Int), ()))) fun y6 => (some ((g_ee (y6.2.1, ((5 : Int), ()))).1, ((x0.1, (x0.2.1, (List.set x0.2.2 (Int.toNat x1.2.2.1) y6.1))), ())))) else (bif (decide (x1.2.1 = (11 : Int))) then (cl (p_f6 (s1, ((3 : Int), ()))) (g_f6 (s1, ((3 : Int), ()))) fun y7 => (some ((g_ee (y7.2.1, ((5 : Int), ()))).1, ((x0.1, (x0.2.1, (List.set x0.2.2 (Int.toNat x1.2.2.1) y7.1))), ())))) else (bif (decide (x1.2.1 = (12 : Int))) then (cl (p_f6 (s1, ((4 : Int), ()))) (g_f6 (s1, ((4 : Int), ()))) fun y8 => (some ((g_ee (y8.2.1, ((5 : Int), ()))).1, ((x0.1, (x0.2.1, (List.set x0.2.2 (Int.toNat x1.2.2.1) y8.1))), ())))) else (some ((g_ee (false, ((5 : Int), ()))).1, (x0, ())))))))))))) else none)))) := by kernel_rfl
theorem S_f7 (h_ez : C_ez p_ez g_ez) (h_f2 : C_f2 p_f2 g_f2) (h_f5 : C_f5 p_f5 g_f5) (h_f6 : C_f6 p_f6 g_f6) (h_ee : C_ee (fun _ => true) g_ee) {pre : In_f7 -> Bool} {fn : In_f7 -> Out_f7} (hev : ∀ x, pre x = true -> ∃ k, E_f7 g_ez p_ez g_f2 p_f2 g_f5 p_f5 g_f6 p_f6 g_ee k x = some (fn x)) : C_f7 pre fn := sound tysOk mixed (fn := Tryz.f93) rfl rfl rfl (.cons h_ez (.cons h_f2 (.cons h_f5 (.cons h_f6 (.cons h_ee .nil))))) _ hev
end
/-! f8: iHouHouse_do -/
abbrev M_f8 : List Vm.Mode := [.pO S_HouHouse, .imm S_ReqReq]
abbrev R_f8 : List (RK × Sh) := [(.imm, I)]
abbrev In_f8 : Type := (insSh M_f8).den
abbrev Out_f8 : Type := (outSh R_f8 M_f8).den
abbrev C_f8 (pre : In_f8 -> Bool) (fn : In_f8 -> Out_f8) : Prop := Sound Tryz.prog 29 ⟨M_f8, R_f8, pre, fn⟩
section
variable (g_ec : In_ec -> Out_ec) (g_ed : In_ed -> Out_ed) (p_ed : In_ed -> Bool) (g_ee : In_ee -> Out_ee) (g_ei : In_ei -> Out_ei) (p_ei : In_ei -> Bool) (g_el : In_el -> Out_el) (p_el : In_el -> Bool) (g_f7 : In_f7 -> Out_f7) (p_f7 : In_f7 -> Bool)
abbrev X_f8 : Ctx := ctx tys 82 (conOf [(88, ⟨M_ec, R_ec, fun _ => true, g_ec⟩), (89, ⟨M_ed, R_ed, p_ed, g_ed⟩), (90, ⟨M_ee, R_ee, fun _ => true, g_ee⟩), (91, ⟨M_ei, R_ei, p_ei, g_ei⟩), (92, ⟨M_el, R_el, p_el, g_el⟩), (93, ⟨M_f7, R_f7, p_f7, g_f7⟩)]) (keepOf []) (fun _ => [])
noncomputable abbrev E_f8 (k : Nat) (x : In_f8) : Option Out_f8 := evFn (X_f8 g_ec g_ed p_ed g_ee g_ei p_ei g_el p_el g_f7 p_f7) Tryz.f29 R_f8 M_f8 k x
variable {g_ec g_ed p_ed g_ee g_ei p_ei g_el p_el g_f7 p_f7}
theorem ev_f8 (k : Nat) (x0 : Dm (.pO S_HouHouse)) (x1 : Dm (.imm S_ReqReq)) : E_f8 g_ec g_ed p_ed g_ee g_ei p_ei g_el p_el g_f7 p_f7 k (x0, x1, ()) =
  (bif (decide ((List.length x0.1 : Int) < x1.1)) then (some ((2 : Int), (x0, ()))) else (bif (bif (decide ((0 : Int) <= (w64 (x1.1 - (1 : Int))))) then (decide ((w64 (x1.1 - (1 : Int))) < (List.length x0.1 : Int))) else false) then (bif (bif (g_ec ((rdL (e := I) x0.1 (w64 (x1.1 - (1 : Int)))), (x1.2.1, ()))).1 then false else true) then (some ((2 : Int), (x0, ()))) else (bif (decide (x1.2.1 = (1 : Int))) then (cl (p_ed (x0.2.1, (x1.2.2.2.2.2.2, ()))) (g_ed (x0.2.1, (x1.2.2.2.2.2.2, ()))) fun y0 => (some ((g_ee (y0.2.1, ((6 : Int), ()))).1, ((x0.1, (y0.1, x0.2.2)), ())))) else (bif (decide (x1.2.1 = (2 : Int))) then (bif (decide ((List.length x0.2.1 : Int) <= x1.2.2.2.2.1)) then (some ((4 : Int), (x0, ()))) else (cl (p_ei (x0.2.1, (x1.2.2.2.2.1, ()))) (g_ei (x0.2.1, (x1.2.2.2.2.1, ()))) fun y1 => (some ((g_ee (y1.2.1, ((5 : Int), ()))).1, ((x0.1, (y1.1, x0.2.2)), ()))))) else (bif (decide (x1.2.1 = (3 : Int))) then (cl (p_el (x0, (x1.2.2.2.2.1, ()))) (g_el (x0, (x1.2.2.2.2.1, ()))) fun y2 => (some (y2.1, (y2.2.1, ())))) else (cl (p_f7 (x0, (x1, ()))) (g_f7 (x0, (x1, ()))) fun y3 => (some (y3.1, (y3.2.1, ())))))))) else none)) := by kernel_rfl
theorem S_f8 (h_ec : C_ec (fun _ => true) g_ec) (h_ed : C_ed p_ed g_ed) (h_ee : C_ee (fun _ => true) g_ee) (h_ei : C_ei p_ei g_ei) (h_el : C_el p_el g_el) (h_f7 : C_f7 p_f7 g_f7) {pre : In_f8 -> Bool} {fn : In_f8 -> Out_f8} (hev : ∀ x, pre x = true -> ∃ k, E_f8 g_ec g_ed p_ed g_ee g_ei p_ei g_el p_el g_f7 p_f7 k x = some (fn x)) : C_f8 pre fn := sound tysOk mixed (fn := Tryz.f29) rfl rfl rfl (.cons h_ec (.cons h_ed (.cons h_ee (.cons h_ei (.cons h_el (.cons h_f7 .nil)))))) _ hev
end
/-! f9: iHouDo -/
abbrev M_f9 : List Vm.Mode := [.imm S_HouHouse, .imm S_ReqReq]
abbrev R_f9 : List (RK × Sh) := [(.own, S_HouHouse), (.imm, I)]
abbrev In_f9 : Type := (insSh M_f9).den
abbrev Out_f9 : Type := (outSh R_f9 M_f9).den
abbrev C_f9 (pre : In_f9 -> Bool) (fn : In_f9 -> Out_f9) : Prop := Sound Tryz.prog 6 ⟨M_f9, R_f9, pre, fn⟩
section
variable (g_dr : In_dr -> Out_dr) (p_dr : In_dr -> Bool) (g_e0 : In_e0 -> Out_e0) (p_e0 : In_e0 -> Bool) (g_e9 : In_e9 -> Out_e9) (p_e9 : In_e9 -> Bool) (g_f8 : In_f8 -> Out_f8) (p_f8 : In_f8 -> Bool)
abbrev X_f9 : Ctx := ctx tys 23 (conOf [(27, ⟨M_dr, R_dr, p_dr, g_dr⟩), (11, ⟨M_e0, R_e0, p_e0, g_e0⟩), (28, ⟨M_e9, R_e9, p_e9, g_e9⟩), (29, ⟨M_f8, R_f8, p_f8, g_f8⟩)]) (keepOf []) (fun _ => [])
noncomputable abbrev E_f9 (k : Nat) (x : In_f9) : Option Out_f9 := evFn (X_f9 g_dr p_dr g_e0 p_e0 g_e9 p_e9 g_f8 p_f8) Tryz.f6 R_f9 M_f9 k x
variable {g_dr p_dr g_e0 p_e0 g_e9 p_e9 g_f8 p_f8}
theorem ev_f9 (k : Nat) (x0 : Dm (.imm S_HouHouse)) (x1 : Dm (.imm S_ReqReq)) : E_f9 g_dr p_dr g_e0 p_e0 g_e9 p_e9 g_f8 p_f8 k (x0, x1, ()) =
  (cl (p_dr (x0, ())) (g_dr (x0, ())) fun y0 => (bif (bif y0.1 then false else true) then (some (([], ([], [])), ((0 : Int), ()))) else (cl (p_e0 (x1, ())) (g_e0 (x1, ())) fun y1 => (bif (bif y1.1 then false else true) then (some (([], ([], [])), ((0 : Int), ()))) else (cl (p_e9 (x0, ())) (g_e9 (x0, ())) fun y2 => (cl (p_f8 (y2.1, (x1, ()))) (g_f8 (y2.1, (x1, ()))) fun y3 => (some (y3.2.1, (y3.1, ()))))))))) := by kernel_rfl
theorem S_f9 (h_dr : C_dr p_dr g_dr) (h_e0 : C_e0 p_e0 g_e0) (h_e9 : C_e9 p_e9 g_e9) (h_f8 : C_f8 p_f8 g_f8) {pre : In_f9 -> Bool} {fn : In_f9 -> Out_f9} (hev : ∀ x, pre x = true -> ∃ k, E_f9 g_dr p_dr g_e0 p_e0 g_e9 p_e9 g_f8 p_f8 k x = some (fn x)) : C_f9 pre fn := sound tysOk mixed (fn := Tryz.f6) rfl rfl rfl (.cons h_dr (.cons h_e0 (.cons h_e9 (.cons h_f8 .nil)))) _ hev
end
/-! fa: leqIntS -/
abbrev M_fa : List Vm.Mode := [.imm L_int, .imm L_int]
abbrev R_fa : List (RK × Sh) := [(.imm, .bool)]
abbrev In_fa : Type := (insSh M_fa).den
abbrev Out_fa : Type := (outSh R_fa M_fa).den
abbrev C_fa (pre : In_fa -> Bool) (fn : In_fa -> Out_fa) : Prop := Sound Tryz.prog 59 ⟨M_fa, R_fa, pre, fn⟩
abbrev X_fa : Ctx := ctx tys 26 (conOf []) (keepOf [(pt0, (⟨[(0, .asis), (1, .asis), (5, .asis)], [], []⟩ : Keep))]) (fun _ => [])
noncomputable abbrev E_fa (k : Nat) (x : In_fa) : Option Out_fa := evFn X_fa Tryz.f59 R_fa M_fa k x
def h0_fa (x0 : Dm (.imm L_int)) (x1 : Dm (.imm L_int)) (h0 : Dn I) : St := mkS [(0, (AV.val L_int x0)), (1, (AV.val L_int x1)), (5, (AV.val I h0))] []
noncomputable def r_fa (x : In_fa) (k : Nat) (p : List Bool) (s : St) : Option Out_fa := rounds X_fa Tryz.f59 R_fa M_fa x k p s
theorem ev_fa (k : Nat) (x0 : Dm (.imm L_int)) (x1 : Dm (.imm L_int)) : E_fa k (x0, x1, ()) =
  (bif (bif (decide ((List.length x0 : Int) = (List.length x1 : Int))) then false else true) then (some (false, ())) else (r_fa  (x0, x1, ()) k pt0 (h0_fa x0 x1 (0 : Int)))) := by kernel_rfl
theorem rd0_fa (k : Nat) (x0 : Dm (.imm L_int)) (x1 : Dm (.imm L_int)) (h0 : Dn I) : r_fa  (x0, x1, ()) (k + 1) pt0 (h0_fa x0 x1 h0) =
  (bif (decide (h0 < (List.length x0 : Int))) then (bif (bif (decide ((0 : Int) <= h0)) then (decide (h0 < (List.length x0 : Int))) else false) then (bif (bif (decide ((0 : Int) <= h0)) then (decide (h0 < (List.length x1 : Int))) else false) then (bif (bif (decide ((rdL (e := I) x0 h0) = (rdL (e := I) x1 h0))) then false else true) then (some (false, ())) else (r_fa  (x0, x1, ()) k pt0 (h0_fa x0 x1 (w64 (h0 + (1 : Int)))))) else none) else none) else (some (true, ()))) := by kernel_rfl
theorem S_fa  {pre : In_fa -> Bool} {fn : In_fa -> Out_fa} (hev : ∀ x, pre x = true -> ∃ k, E_fa k x = some (fn x)) : C_fa pre fn := sound tysOk mixed (fn := Tryz.f59) rfl rfl rfl ConsOk.nil _ hev
/-! fb: leqDecDec -/
abbrev M_fb : List Vm.Mode := [.imm S_DecDec, .imm S_DecDec]
abbrev R_fb : List (RK × Sh) := [(.imm, .bool)]
abbrev In_fb : Type := (insSh M_fb).den
abbrev Out_fb : Type := (outSh R_fb M_fb).den
abbrev C_fb (pre : In_fb -> Bool) (fn : In_fb -> Out_fb) : Prop := Sound Tryz.prog 62 ⟨M_fb, R_fb, pre, fn⟩
abbrev X_fb : Ctx := ctx tys 15 (conOf []) (keepOf []) (fun _ => [])
noncomputable abbrev E_fb (k : Nat) (x : In_fb) : Option Out_fb := evFn X_fb Tryz.f62 R_fb M_fb k x
theorem ev_fb (k : Nat) (x0 : Dm (.imm S_DecDec)) (x1 : Dm (.imm S_DecDec)) : E_fb k (x0, x1, ()) =
  (bif (bif (decide (x0.1 = x1.1)) then false else true) then (some (false, ())) else (bif (bif (decide (x0.2 = x1.2)) then false else true) then (some (false, ())) else (some (true, ())))) := by kernel_rfl
theorem S_fb  {pre : In_fb -> Bool} {fn : In_fb -> Out_fb} (hev : ∀ x, pre x = true -> ∃ k, E_fb k x = some (fn x)) : C_fb pre fn := sound tysOk mixed (fn := Tryz.f62) rfl rfl rfl ConsOk.nil _ hev
/-! fc: leqSpcTest -/
abbrev M_fc : List Vm.Mode := [.imm S_SpcTest, .imm S_SpcTest]
abbrev R_fc : List (RK × Sh) := [(.imm, .bool)]
abbrev In_fc : Type := (insSh M_fc).den
abbrev Out_fc : Type := (outSh R_fc M_fc).den
abbrev C_fc (pre : In_fc -> Bool) (fn : In_fc -> Out_fc) : Prop := Sound Tryz.prog 120 ⟨M_fc, R_fc, pre, fn⟩
section
variable (g_fb : In_fb -> Out_fb)
abbrev X_fc : Ctx := ctx tys 27 (conOf [(62, ⟨M_fb, R_fb, fun _ => true, g_fb⟩)]) (keepOf []) (fun _ => [])
noncomputable abbrev E_fc (k : Nat) (x : In_fc) : Option Out_fc := evFn (X_fc g_fb) Tryz.f120 R_fc M_fc k x
variable {g_fb}
theorem ev_fc (k : Nat) (x0 : Dm (.imm S_SpcTest)) (x1 : Dm (.imm S_SpcTest)) : E_fc g_fb k (x0, x1, ()) =
  (bif (bif (decide (x0.1 = x1.1)) then false else true) then (some (false, ())) else (bif (bif (g_fb (x0.2.1, (x1.2.1, ()))).1 then false else true) then (some (false, ())) else (bif (bif (g_fb (x0.2.2.1, (x1.2.2.1, ()))).1 then false else true) then (some (false, ())) else (bif (bif (decide (x0.2.2.2 = x1.2.2.2)) then false else true) then (some (false, ())) else (some (true, ())))))) := by kernel_rfl
theorem S_fc (h_fb : C_fb (fun _ => true) g_fb) {pre : In_fc -> Bool} {fn : In_fc -> Out_fc} (hev : ∀ x, pre x = true -> ∃ k, E_fc g_fb k x = some (fn x)) : C_fc pre fn := sound tysOk mixed (fn := Tryz.f120) rfl rfl rfl (.cons h_fb .nil) _ hev
end
/-! fd: leqSpcTestS -/
abbrev M_fd : List Vm.Mode := [.imm L_SpcTest, .imm L_SpcTest]
abbrev R_fd : List (RK × Sh) := [(.imm, .bool)]
abbrev In_fd : Type := (insSh M_fd).den
abbrev Out_fd : Type := (outSh R_fd M_fd).den
abbrev C_fd (pre : In_fd -> Bool) (fn : In_fd -> Out_fd) : Prop := Sound Tryz.prog 63 ⟨M_fd, R_fd, pre, fn⟩
section
variable (g_fc : In_fc -> Out_fc)
abbrev X_fd : Ctx := ctx tys 27 (conOf [(120, ⟨M_fc, R_fc, fun _ => true, g_fc⟩)]) (keepOf [(pt0, (⟨[(0, .asis), (1, .asis), (5, .asis)], [], []⟩ : Keep))]) (fun _ => [])
noncomputable abbrev E_fd (k : Nat) (x : In_fd) : Option Out_fd := evFn (X_fd g_fc) Tryz.f63 R_fd M_fd k x
def h0_fd (x0 : Dm (.imm L_SpcTest)) (x1 : Dm (.imm L_SpcTest)) (h0 : Dn I) : St := mkS [(0, (AV.val L_SpcTest x0)), (1, (AV.val L_SpcTest x1)), (5, (AV.val I h0))] []
noncomputable def r_fd (x : In_fd) (k : Nat) (p : List Bool) (s : St) : Option Out_fd := rounds (X_fd g_fc) Tryz.f63 R_fd M_fd x k p s
variable {g_fc}
theorem ev_fd (k : Nat) (x0 : Dm (.imm L_SpcTest)) (x1 : Dm (.imm L_SpcTest)) : E_fd g_fc k (x0, x1, ()) =
  (bif (bif (decide ((List.length x0 : Int) = (List.length x1 : Int))) then false else true) then (some (false, ())) else (r_fd g_fc (x0, x1, ()) k pt0 (h0_fd x0 x1 (0 : Int)))) := by kernel_rfl
theorem rd0_fd (k : Nat) (x0 : Dm (.imm L_SpcTest)) (x1 : Dm (.imm L_SpcTest)) (h0 : Dn I) : r_fd g_fc (x0, x1, ()) (k + 1) pt0 (h0_fd x0 x1 h0) =
  (bif (decide (h0 < (List.length x0 : Int))) then (bif (bif (decide ((0 : Int) <= h0)) then (decide (h0 < (List.length x0 : Int))) else false) then (bif (bif (decide ((0 : Int) <= h0)) then (decide (h0 < (List.length x1 : Int))) else false) then (bif (bif (g_fc ((rdL (e := S_SpcTest) x0 h0), ((rdL (e := S_SpcTest) x1 h0), ()))).1 then false else true) then (some (false, ())) else (r_fd g_fc (x0, x1, ()) k pt0 (h0_fd x0 x1 (w64 (h0 + (1 : Int)))))) else none) else none) else (some (true, ()))) := by kernel_rfl
theorem S_fd (h_fc : C_fc (fun _ => true) g_fc) {pre : In_fd -> Bool} {fn : In_fd -> Out_fd} (hev : ∀ x, pre x = true -> ∃ k, E_fd g_fc k x = some (fn x)) : C_fd pre fn := sound tysOk mixed (fn := Tryz.f63) rfl rfl rfl (.cons h_fc .nil) _ hev
end
/-! fe: leqSpcSpec -/
abbrev M_fe : List Vm.Mode := [.imm S_SpcSpec, .imm S_SpcSpec]
abbrev R_fe : List (RK × Sh) := [(.imm, .bool)]
abbrev In_fe : Type := (insSh M_fe).den
abbrev Out_fe : Type := (outSh R_fe M_fe).den
abbrev C_fe (pre : In_fe -> Bool) (fn : In_fe -> Out_fe) : Prop := Sound Tryz.prog 118 ⟨M_fe, R_fe, pre, fn⟩
section
variable (g_fd : In_fd -> Out_fd) (p_fd : In_fd -> Bool)
abbrev X_fe : Ctx := ctx tys 16 (conOf [(63, ⟨M_fd, R_fd, p_fd, g_fd⟩)]) (keepOf []) (fun _ => [])
noncomputable abbrev E_fe (k : Nat) (x : In_fe) : Option Out_fe := evFn (X_fe g_fd p_fd) Tryz.f118 R_fe M_fe k x
variable {g_fd p_fd}
theorem ev_fe (k : Nat) (x0 : Dm (.imm S_SpcSpec)) (x1 : Dm (.imm S_SpcSpec)) : E_fe g_fd p_fd k (x0, x1, ()) =
  (bif (p_fd (x0.1, (x1.1, ()))) then (bif (bif (g_fd (x0.1, (x1.1, ()))).1 then false else true) then (some (false, ())) else (bif (bif (decide (x0.2 = x1.2)) then false else true) then (some (false, ())) else (some (true, ())))) else none) := by kernel_rfl
theorem S_fe (h_fd : C_fd p_fd g_fd) {pre : In_fe -> Bool} {fn : In_fe -> Out_fe} (hev : ∀ x, pre x = true -> ∃ k, E_fe g_fd p_fd k x = some (fn x)) : C_fe pre fn := sound tysOk mixed (fn := Tryz.f118) rfl rfl rfl (.cons h_fd .nil) _ hev
end
/-! ff: leqSpcSpecS -/
abbrev M_ff : List Vm.Mode := [.imm L_SpcSpec, .imm L_SpcSpec]
abbrev R_ff : List (RK × Sh) := [(.imm, .bool)]
abbrev In_ff : Type := (insSh M_ff).den
abbrev Out_ff : Type := (outSh R_ff M_ff).den
abbrev C_ff (pre : In_ff -> Bool) (fn : In_ff -> Out_ff) : Prop := Sound Tryz.prog 60 ⟨M_ff, R_ff, pre, fn⟩
section
variable (g_fe : In_fe -> Out_fe) (p_fe : In_fe -> Bool)
abbrev X_ff : Ctx := ctx tys 27 (conOf [(118, ⟨M_fe, R_fe, p_fe, g_fe⟩)]) (keepOf [(pt0, (⟨[(0, .asis), (1, .asis), (5, .asis)], [], []⟩ : Keep))]) (fun _ => [])
noncomputable abbrev E_ff (k : Nat) (x : In_ff) : Option Out_ff := evFn (X_ff g_fe p_fe) Tryz.f60 R_ff M_ff k x
def h0_ff (x0 : Dm (.imm L_SpcSpec)) (x1 : Dm (.imm L_SpcSpec)) (h0 : Dn I) : St := mkS [(0, (AV.val L_SpcSpec x0)), (1, (AV.val L_SpcSpec x1)), (5, (AV.val I h0))] []
noncomputable def r_ff (x : In_ff) (k : Nat) (p : List Bool) (s : St) : Option Out_ff := rounds (X_ff g_fe p_fe) Tryz.f60 R_ff M_ff x k p s
variable {g_fe p_fe}
theorem ev_ff (k : Nat) (x0 : Dm (.imm L_SpcSpec)) (x1 : Dm (.imm L_SpcSpec)) : E_ff g_fe p_fe k (x0, x1, ()) =
  (bif (bif (decide ((List.length x0 : Int) = (List.length x1 : Int))) then false else true) then (some (false, ())) else (r_ff g_fe p_fe (x0, x1, ()) k pt0 (h0_ff x0 x1 (0 : Int)))) := by kernel_rfl
theorem rd0_ff (k : Nat) (x0 : Dm (.imm L_SpcSpec)) (x1 : Dm (.imm L_SpcSpec)) (h0 : Dn I) : r_ff g_fe p_fe (x0, x1, ()) (k + 1) pt0 (h0_ff x0 x1 h0) =
  (bif (decide (h0 < (List.length x0 : Int))) then (bif (bif (decide ((0 : Int) <= h0)) then (decide (h0 < (List.length x0 : Int))) else false) then (bif (bif (decide ((0 : Int) <= h0)) then (decide (h0 < (List.length x1 : Int))) else false) then (bif (p_fe ((rdL (e := S_SpcSpec) x0 h0), ((rdL (e := S_SpcSpec) x1 h0), ()))) then (bif (bif (g_fe ((rdL (e := S_SpcSpec) x0 h0), ((rdL (e := S_SpcSpec) x1 h0), ()))).1 then false else true) then (some (false, ())) else (r_ff g_fe p_fe (x0, x1, ()) k pt0 (h0_ff x0 x1 (w64 (h0 + (1 : Int)))))) else none) else none) else none) else (some (true, ()))) := by kernel_rfl
theorem S_ff (h_fe : C_fe p_fe g_fe) {pre : In_ff -> Bool} {fn : In_ff -> Out_ff} (hev : ∀ x, pre x = true -> ∃ k, E_ff g_fe p_fe k x = some (fn x)) : C_ff pre fn := sound tysOk mixed (fn := Tryz.f60) rfl rfl rfl (.cons h_fe .nil) _ hev
end
/-! fg: leqDecDecS -/
abbrev M_fg : List Vm.Mode := [.imm L_DecDec, .imm L_DecDec]
abbrev R_fg : List (RK × Sh) := [(.imm, .bool)]
abbrev In_fg : Type := (insSh M_fg).den
abbrev Out_fg : Type := (outSh R_fg M_fg).den
abbrev C_fg (pre : In_fg -> Bool) (fn : In_fg -> Out_fg) : Prop := Sound Tryz.prog 255 ⟨M_fg, R_fg, pre, fn⟩
section
variable (g_fb : In_fb -> Out_fb)
abbrev X_fg : Ctx := ctx tys 27 (conOf [(62, ⟨M_fb, R_fb, fun _ => true, g_fb⟩)]) (keepOf [(pt0, (⟨[(0, .asis), (1, .asis), (5, .asis)], [], []⟩ : Keep))]) (fun _ => [])
noncomputable abbrev E_fg (k : Nat) (x : In_fg) : Option Out_fg := evFn (X_fg g_fb) Tryz.f255 R_fg M_fg k x
def h0_fg (x0 : Dm (.imm L_DecDec)) (x1 : Dm (.imm L_DecDec)) (h0 : Dn I) : St := mkS [(0, (AV.val L_DecDec x0)), (1, (AV.val L_DecDec x1)), (5, (AV.val I h0))] []
noncomputable def r_fg (x : In_fg) (k : Nat) (p : List Bool) (s : St) : Option Out_fg := rounds (X_fg g_fb) Tryz.f255 R_fg M_fg x k p s
variable {g_fb}
theorem ev_fg (k : Nat) (x0 : Dm (.imm L_DecDec)) (x1 : Dm (.imm L_DecDec)) : E_fg g_fb k (x0, x1, ()) =
  (bif (bif (decide ((List.length x0 : Int) = (List.length x1 : Int))) then false else true) then (some (false, ())) else (r_fg g_fb (x0, x1, ()) k pt0 (h0_fg x0 x1 (0 : Int)))) := by kernel_rfl
theorem rd0_fg (k : Nat) (x0 : Dm (.imm L_DecDec)) (x1 : Dm (.imm L_DecDec)) (h0 : Dn I) : r_fg g_fb (x0, x1, ()) (k + 1) pt0 (h0_fg x0 x1 h0) =
  (bif (decide (h0 < (List.length x0 : Int))) then (bif (bif (decide ((0 : Int) <= h0)) then (decide (h0 < (List.length x0 : Int))) else false) then (bif (bif (decide ((0 : Int) <= h0)) then (decide (h0 < (List.length x1 : Int))) else false) then (bif (bif (g_fb ((rdL (e := S_DecDec) x0 h0), ((rdL (e := S_DecDec) x1 h0), ()))).1 then false else true) then (some (false, ())) else (r_fg g_fb (x0, x1, ()) k pt0 (h0_fg x0 x1 (w64 (h0 + (1 : Int)))))) else none) else none) else (some (true, ()))) := by kernel_rfl
theorem S_fg (h_fb : C_fb (fun _ => true) g_fb) {pre : In_fg -> Bool} {fn : In_fg -> Out_fg} (hev : ∀ x, pre x = true -> ∃ k, E_fg g_fb k x = some (fn x)) : C_fg pre fn := sound tysOk mixed (fn := Tryz.f255) rfl rfl rfl (.cons h_fb .nil) _ hev
end
/-! fh: leqTstTest -/
abbrev M_fh : List Vm.Mode := [.imm S_TstTest, .imm S_TstTest]
abbrev R_fh : List (RK × Sh) := [(.imm, .bool)]
abbrev In_fh : Type := (insSh M_fh).den
abbrev Out_fh : Type := (outSh R_fh M_fh).den
abbrev C_fh (pre : In_fh -> Bool) (fn : In_fh -> Out_fh) : Prop := Sound Tryz.prog 225 ⟨M_fh, R_fh, pre, fn⟩
section
variable (g_fc : In_fc -> Out_fc) (g_fb : In_fb -> Out_fb) (g_fg : In_fg -> Out_fg) (p_fg : In_fg -> Bool)
abbrev X_fh : Ctx := ctx tys 33 (conOf [(120, ⟨M_fc, R_fc, fun _ => true, g_fc⟩), (62, ⟨M_fb, R_fb, fun _ => true, g_fb⟩), (255, ⟨M_fg, R_fg, p_fg, g_fg⟩)]) (keepOf []) (fun _ => [])
noncomputable abbrev E_fh (k : Nat) (x : In_fh) : Option Out_fh := evFn (X_fh g_fc g_fb g_fg p_fg) Tryz.f225 R_fh M_fh k x
variable {g_fc g_fb g_fg p_fg}
theorem ev_fh (k : Nat) (x0 : Dm (.imm S_TstTest)) (x1 : Dm (.imm S_TstTest)) : E_fh g_fc g_fb g_fg p_fg k (x0, x1, ()) =
  (bif (bif (g_fc (x0.1, (x1.1, ()))).1 then false else true) then (some (false, ())) else (bif (bif (decide (x0.2.1 = x1.2.1)) then false else true) then (some (false, ())) else (bif (bif (g_fb (x0.2.2.1, (x1.2.2.1, ()))).1 then false else true) then (some (false, ())) else (bif (bif (decide (x0.2.2.2.1 = x1.2.2.2.1)) then false else true) then (some (false, ())) else (bif (p_fg (x0.2.2.2.2, (x1.2.2.2.2, ()))) then (bif (bif (g_fg (x0.2.2.2.2, (x1.2.2.2.2, ()))).1 then false else true) then (some (false, ())) else (some (true, ()))) else none))))) := by kernel_rfl
theorem S_fh (h_fc : C_fc (fun _ => true) g_fc) (h_fb : C_fb (fun _ => true) g_fb) (h_fg : C_fg p_fg g_fg) {pre : In_fh -> Bool} {fn : In_fh -> Out_fh} (hev : ∀ x, pre x = true -> ∃ k, E_fh g_fc g_fb g_fg p_fg k x = some (fn x)) : C_fh pre fn := sound tysOk mixed (fn := Tryz.f225) rfl rfl rfl (.cons h_fc (.cons h_fb (.cons h_fg .nil))) _ hev
end
/-! fi: leqTstTestS -/
abbrev M_fi : List Vm.Mode := [.imm L_TstTest, .imm L_TstTest]
abbrev R_fi : List (RK × Sh) := [(.imm, .bool)]
abbrev In_fi : Type := (insSh M_fi).den
abbrev Out_fi : Type := (outSh R_fi M_fi).den
abbrev C_fi (pre : In_fi -> Bool) (fn : In_fi -> Out_fi) : Prop := Sound Tryz.prog 175 ⟨M_fi, R_fi, pre, fn⟩
section
variable (g_fh : In_fh -> Out_fh) (p_fh : In_fh -> Bool)
abbrev X_fi : Ctx := ctx tys 27 (conOf [(225, ⟨M_fh, R_fh, p_fh, g_fh⟩)]) (keepOf [(pt0, (⟨[(0, .asis), (1, .asis), (5, .asis)], [], []⟩ : Keep))]) (fun _ => [])
noncomputable abbrev E_fi (k : Nat) (x : In_fi) : Option Out_fi := evFn (X_fi g_fh p_fh) Tryz.f175 R_fi M_fi k x
def h0_fi (x0 : Dm (.imm L_TstTest)) (x1 : Dm (.imm L_TstTest)) (h0 : Dn I) : St := mkS [(0, (AV.val L_TstTest x0)), (1, (AV.val L_TstTest x1)), (5, (AV.val I h0))] []
noncomputable def r_fi (x : In_fi) (k : Nat) (p : List Bool) (s : St) : Option Out_fi := rounds (X_fi g_fh p_fh) Tryz.f175 R_fi M_fi x k p s
variable {g_fh p_fh}
theorem ev_fi (k : Nat) (x0 : Dm (.imm L_TstTest)) (x1 : Dm (.imm L_TstTest)) : E_fi g_fh p_fh k (x0, x1, ()) =
  (bif (bif (decide ((List.length x0 : Int) = (List.length x1 : Int))) then false else true) then (some (false, ())) else (r_fi g_fh p_fh (x0, x1, ()) k pt0 (h0_fi x0 x1 (0 : Int)))) := by kernel_rfl
theorem rd0_fi (k : Nat) (x0 : Dm (.imm L_TstTest)) (x1 : Dm (.imm L_TstTest)) (h0 : Dn I) : r_fi g_fh p_fh (x0, x1, ()) (k + 1) pt0 (h0_fi x0 x1 h0) =
  (bif (decide (h0 < (List.length x0 : Int))) then (bif (bif (decide ((0 : Int) <= h0)) then (decide (h0 < (List.length x0 : Int))) else false) then (bif (bif (decide ((0 : Int) <= h0)) then (decide (h0 < (List.length x1 : Int))) else false) then (cl (p_fh ((rdL (e := S_TstTest) x0 h0), ((rdL (e := S_TstTest) x1 h0), ()))) (g_fh ((rdL (e := S_TstTest) x0 h0), ((rdL (e := S_TstTest) x1 h0), ()))) fun y0 => (bif (bif y0.1 then false else true) then (some (false, ())) else (r_fi g_fh p_fh (x0, x1, ()) k pt0 (h0_fi x0 x1 (w64 (h0 + (1 : Int))))))) else none) else none) else (some (true, ()))) := by kernel_rfl
theorem S_fi (h_fh : C_fh p_fh g_fh) {pre : In_fi -> Bool} {fn : In_fi -> Out_fi} (hev : ∀ x, pre x = true -> ∃ k, E_fi g_fh p_fh k x = some (fn x)) : C_fi pre fn := sound tysOk mixed (fn := Tryz.f175) rfl rfl rfl (.cons h_fh .nil) _ hev
end
/-! fj: leqBatSig -/
abbrev M_fj : List Vm.Mode := [.imm S_DayDay, .imm S_DayDay]
abbrev R_fj : List (RK × Sh) := [(.imm, .bool)]
abbrev In_fj : Type := (insSh M_fj).den
abbrev Out_fj : Type := (outSh R_fj M_fj).den
abbrev C_fj (pre : In_fj -> Bool) (fn : In_fj -> Out_fj) : Prop := Sound Tryz.prog 226 ⟨M_fj, R_fj, pre, fn⟩
abbrev X_fj : Ctx := ctx tys 20 (conOf []) (keepOf []) (fun _ => [])
noncomputable abbrev E_fj (k : Nat) (x : In_fj) : Option Out_fj := evFn X_fj Tryz.f226 R_fj M_fj k x
theorem ev_fj (k : Nat) (x0 : Dm (.imm S_DayDay)) (x1 : Dm (.imm S_DayDay)) : E_fj k (x0, x1, ()) =
  (bif (bif (decide (x0.1 = x1.1)) then false else true) then (some (false, ())) else (bif (bif (decide (x0.2.1 = x1.2.1)) then false else true) then (some (false, ())) else (bif (bif (decide (x0.2.2 = x1.2.2)) then false else true) then (some (false, ())) else (some (true, ()))))) := by kernel_rfl
theorem S_fj  {pre : In_fj -> Bool} {fn : In_fj -> Out_fj} (hev : ∀ x, pre x = true -> ∃ k, E_fj k x = some (fn x)) : C_fj pre fn := sound tysOk mixed (fn := Tryz.f226) rfl rfl rfl ConsOk.nil _ hev
/-! fk: leqBatSigS -/
abbrev M_fk : List Vm.Mode := [.imm L_BatSig, .imm L_BatSig]
abbrev R_fk : List (RK × Sh) := [(.imm, .bool)]
abbrev In_fk : Type := (insSh M_fk).den
abbrev Out_fk : Type := (outSh R_fk M_fk).den
abbrev C_fk (pre : In_fk -> Bool) (fn : In_fk -> Out_fk) : Prop := Sound Tryz.prog 176 ⟨M_fk, R_fk, pre, fn⟩
section
variable (g_fj : In_fj -> Out_fj)
abbrev X_fk : Ctx := ctx tys 27 (conOf [(226, ⟨M_fj, R_fj, fun _ => true, g_fj⟩)]) (keepOf [(pt0, (⟨[(0, .asis), (1, .asis), (5, .asis)], [], []⟩ : Keep))]) (fun _ => [])
noncomputable abbrev E_fk (k : Nat) (x : In_fk) : Option Out_fk := evFn (X_fk g_fj) Tryz.f176 R_fk M_fk k x
def h0_fk (x0 : Dm (.imm L_BatSig)) (x1 : Dm (.imm L_BatSig)) (h0 : Dn I) : St := mkS [(0, (AV.val L_BatSig x0)), (1, (AV.val L_BatSig x1)), (5, (AV.val I h0))] []
noncomputable def r_fk (x : In_fk) (k : Nat) (p : List Bool) (s : St) : Option Out_fk := rounds (X_fk g_fj) Tryz.f176 R_fk M_fk x k p s
variable {g_fj}
theorem ev_fk (k : Nat) (x0 : Dm (.imm L_BatSig)) (x1 : Dm (.imm L_BatSig)) : E_fk g_fj k (x0, x1, ()) =
  (bif (bif (decide ((List.length x0 : Int) = (List.length x1 : Int))) then false else true) then (some (false, ())) else (r_fk g_fj (x0, x1, ()) k pt0 (h0_fk x0 x1 (0 : Int)))) := by kernel_rfl
theorem rd0_fk (k : Nat) (x0 : Dm (.imm L_BatSig)) (x1 : Dm (.imm L_BatSig)) (h0 : Dn I) : r_fk g_fj (x0, x1, ()) (k + 1) pt0 (h0_fk x0 x1 h0) =
  (bif (decide (h0 < (List.length x0 : Int))) then (bif (bif (decide ((0 : Int) <= h0)) then (decide (h0 < (List.length x0 : Int))) else false) then (bif (bif (decide ((0 : Int) <= h0)) then (decide (h0 < (List.length x1 : Int))) else false) then (bif (bif (g_fj ((rdL (e := S_DayDay) x0 h0), ((rdL (e := S_DayDay) x1 h0), ()))).1 then false else true) then (some (false, ())) else (r_fk g_fj (x0, x1, ()) k pt0 (h0_fk x0 x1 (w64 (h0 + (1 : Int)))))) else none) else none) else (some (true, ()))) := by kernel_rfl
theorem S_fk (h_fj : C_fj (fun _ => true) g_fj) {pre : In_fk -> Bool} {fn : In_fk -> Out_fk} (hev : ∀ x, pre x = true -> ∃ k, E_fk g_fj k x = some (fn x)) : C_fk pre fn := sound tysOk mixed (fn := Tryz.f176) rfl rfl rfl (.cons h_fj .nil) _ hev
end
/-! fl: leqBoolS -/
abbrev M_fl : List Vm.Mode := [.imm L_bool, .imm L_bool]
abbrev R_fl : List (RK × Sh) := [(.imm, .bool)]
abbrev In_fl : Type := (insSh M_fl).den
abbrev Out_fl : Type := (outSh R_fl M_fl).den
abbrev C_fl (pre : In_fl -> Bool) (fn : In_fl -> Out_fl) : Prop := Sound Tryz.prog 177 ⟨M_fl, R_fl, pre, fn⟩
abbrev X_fl : Ctx := ctx tys 26 (conOf []) (keepOf [(pt0, (⟨[(0, .asis), (1, .asis), (5, .asis)], [], []⟩ : Keep))]) (fun _ => [])
noncomputable abbrev E_fl (k : Nat) (x : In_fl) : Option Out_fl := evFn X_fl Tryz.f177 R_fl M_fl k x
def h0_fl (x0 : Dm (.imm L_bool)) (x1 : Dm (.imm L_bool)) (h0 : Dn I) : St := mkS [(0, (AV.val L_bool x0)), (1, (AV.val L_bool x1)), (5, (AV.val I h0))] []
noncomputable def r_fl (x : In_fl) (k : Nat) (p : List Bool) (s : St) : Option Out_fl := rounds X_fl Tryz.f177 R_fl M_fl x k p s
theorem ev_fl (k : Nat) (x0 : Dm (.imm L_bool)) (x1 : Dm (.imm L_bool)) : E_fl k (x0, x1, ()) =
  (bif (bif (decide ((List.length x0 : Int) = (List.length x1 : Int))) then false else true) then (some (false, ())) else (r_fl  (x0, x1, ()) k pt0 (h0_fl x0 x1 (0 : Int)))) := by kernel_rfl
theorem rd0_fl (k : Nat) (x0 : Dm (.imm L_bool)) (x1 : Dm (.imm L_bool)) (h0 : Dn I) : r_fl  (x0, x1, ()) (k + 1) pt0 (h0_fl x0 x1 h0) =
  (bif (decide (h0 < (List.length x0 : Int))) then (bif (bif (decide ((0 : Int) <= h0)) then (decide (h0 < (List.length x0 : Int))) else false) then (bif (bif (decide ((0 : Int) <= h0)) then (decide (h0 < (List.length x1 : Int))) else false) then (bif (bif ((rdL (e := Sh.bool) x0 h0) == (rdL (e := Sh.bool) x1 h0)) then false else true) then (some (false, ())) else (r_fl  (x0, x1, ()) k pt0 (h0_fl x0 x1 (w64 (h0 + (1 : Int)))))) else none) else none) else (some (true, ()))) := by kernel_rfl
theorem S_fl  {pre : In_fl -> Bool} {fn : In_fl -> Out_fl} (hev : ∀ x, pre x = true -> ∃ k, E_fl k x = some (fn x)) : C_fl pre fn := sound tysOk mixed (fn := Tryz.f177) rfl rfl rfl ConsOk.nil _ hev
/-! fm: leqBatBatch -/
abbrev M_fm : List Vm.Mode := [.imm S_BatBatch, .imm S_BatBatch]
abbrev R_fm : List (RK × Sh) := [(.imm, .bool)]
abbrev In_fm : Type := (insSh M_fm).den
abbrev Out_fm : Type := (outSh R_fm M_fm).den
abbrev C_fm (pre : In_fm -> Bool) (fn : In_fm -> Out_fm) : Prop := Sound Tryz.prog 119 ⟨M_fm, R_fm, pre, fn⟩
section
variable (g_fi : In_fi -> Out_fi) (p_fi : In_fi -> Bool) (g_fk : In_fk -> Out_fk) (p_fk : In_fk -> Bool) (g_fl : In_fl -> Out_fl) (p_fl : In_fl -> Bool)
abbrev X_fm : Ctx := ctx tys 38 (conOf [(175, ⟨M_fi, R_fi, p_fi, g_fi⟩), (176, ⟨M_fk, R_fk, p_fk, g_fk⟩), (177, ⟨M_fl, R_fl, p_fl, g_fl⟩)]) (keepOf []) (fun _ => [])
noncomputable abbrev E_fm (k : Nat) (x : In_fm) : Option Out_fm := evFn (X_fm g_fi p_fi g_fk p_fk g_fl p_fl) Tryz.f119 R_fm M_fm k x
variable {g_fi p_fi g_fk p_fk g_fl p_fl}
theorem ev_fm (k : Nat) (x0 : Dm (.imm S_BatBatch)) (x1 : Dm (.imm S_BatBatch)) : E_fm g_fi p_fi g_fk p_fk g_fl p_fl k (x0, x1, ()) =
  (bif (bif (decide (x0.1 = x1.1)) then false else true) then (some (false, ())) else (bif (bif (decide (x0.2.1 = x1.2.1)) then false else true) then (some (false, ())) else (cl (p_fi (x0.2.2.1, (x1.2.2.1, ()))) (g_fi (x0.2.2.1, (x1.2.2.1, ()))) fun y0 => (bif (bif y0.1 then false else true) then (some (false, ())) else (bif (bif (decide (x0.2.2.2.1 = x1.2.2.2.1)) then false else true) then (some (false, ())) else (cl (p_fk (x0.2.2.2.2.1, (x1.2.2.2.2.1, ()))) (g_fk (x0.2.2.2.2.1, (x1.2.2.2.2.1, ()))) fun y1 => (bif (bif y1.1 then false else true) then (some (false, ())) else (cl (p_fl (x0.2.2.2.2.2, (x1.2.2.2.2.2, ()))) (g_fl (x0.2.2.2.2.2, (x1.2.2.2.2.2, ()))) fun y2 => (bif (bif y2.1 then false else true) then (some (false, ())) else (some (true, ()))))))))))) := by kernel_rfl
theorem S_fm (h_fi : C_fi p_fi g_fi) (h_fk : C_fk p_fk g_fk) (h_fl : C_fl p_fl g_fl) {pre : In_fm -> Bool} {fn : In_fm -> Out_fm} (hev : ∀ x, pre x = true -> ∃ k, E_fm g_fi p_fi g_fk p_fk g_fl p_fl k x = some (fn x)) : C_fm pre fn := sound tysOk mixed (fn := Tryz.f119) rfl rfl rfl (.cons h_fi (.cons h_fk (.cons h_fl .nil))) _ hev
end
/-! fn: leqBatBatchS -/
abbrev M_fn : List Vm.Mode := [.imm L_BatBatch, .imm L_BatBatch]
abbrev R_fn : List (RK × Sh) := [(.imm, .bool)]
abbrev In_fn : Type := (insSh M_fn).den
abbrev Out_fn : Type := (outSh R_fn M_fn).den
abbrev C_fn (pre : In_fn -> Bool) (fn : In_fn -> Out_fn) : Prop := Sound Tryz.prog 61 ⟨M_fn, R_fn, pre, fn⟩
section
variable (g_fm : In_fm -> Out_fm) (p_fm : In_fm -> Bool)
abbrev X_fn : Ctx := ctx tys 27 (conOf [(119, ⟨M_fm, R_fm, p_fm, g_fm⟩)]) (keepOf [(pt0, (⟨[(0, .asis), (1, .asis), (5, .asis)], [], []⟩ : Keep))]) (fun _ => [])
noncomputable abbrev E_fn (k : Nat) (x : In_fn) : Option Out_fn := evFn (X_fn g_fm p_fm) Tryz.f61 R_fn M_fn k x
def h0_fn (x0 : Dm (.imm L_BatBatch)) (x1 : Dm (.imm L_BatBatch)) (h0 : Dn I) : St := mkS [(0, (AV.val L_BatBatch x0)), (1, (AV.val L_BatBatch x1)), (5, (AV.val I h0))] []
noncomputable def r_fn (x : In_fn) (k : Nat) (p : List Bool) (s : St) : Option Out_fn := rounds (X_fn g_fm p_fm) Tryz.f61 R_fn M_fn x k p s
variable {g_fm p_fm}
theorem ev_fn (k : Nat) (x0 : Dm (.imm L_BatBatch)) (x1 : Dm (.imm L_BatBatch)) : E_fn g_fm p_fm k (x0, x1, ()) =
  (bif (bif (decide ((List.length x0 : Int) = (List.length x1 : Int))) then false else true) then (some (false, ())) else (r_fn g_fm p_fm (x0, x1, ()) k pt0 (h0_fn x0 x1 (0 : Int)))) := by kernel_rfl
theorem rd0_fn (k : Nat) (x0 : Dm (.imm L_BatBatch)) (x1 : Dm (.imm L_BatBatch)) (h0 : Dn I) : r_fn g_fm p_fm (x0, x1, ()) (k + 1) pt0 (h0_fn x0 x1 h0) =
  (bif (decide (h0 < (List.length x0 : Int))) then (bif (bif (decide ((0 : Int) <= h0)) then (decide (h0 < (List.length x0 : Int))) else false) then (bif (bif (decide ((0 : Int) <= h0)) then (decide (h0 < (List.length x1 : Int))) else false) then (cl (p_fm ((rdL (e := S_BatBatch) x0 h0), ((rdL (e := S_BatBatch) x1 h0), ()))) (g_fm ((rdL (e := S_BatBatch) x0 h0), ((rdL (e := S_BatBatch) x1 h0), ()))) fun y0 => (bif (bif y0.1 then false else true) then (some (false, ())) else (r_fn g_fm p_fm (x0, x1, ()) k pt0 (h0_fn x0 x1 (w64 (h0 + (1 : Int))))))) else none) else none) else (some (true, ()))) := by kernel_rfl
theorem S_fn (h_fm : C_fm p_fm g_fm) {pre : In_fn -> Bool} {fn : In_fn -> Out_fn} (hev : ∀ x, pre x = true -> ∃ k, E_fn g_fm p_fm k x = some (fn x)) : C_fn pre fn := sound tysOk mixed (fn := Tryz.f61) rfl rfl rfl (.cons h_fm .nil) _ hev
end
/-! fo: leqHouHouse -/
abbrev M_fo : List Vm.Mode := [.imm S_HouHouse, .imm S_HouHouse]
abbrev R_fo : List (RK × Sh) := [(.imm, .bool)]
abbrev In_fo : Type := (insSh M_fo).den
abbrev Out_fo : Type := (outSh R_fo M_fo).den
abbrev C_fo (pre : In_fo -> Bool) (fn : In_fo -> Out_fo) : Prop := Sound Tryz.prog 17 ⟨M_fo, R_fo, pre, fn⟩
section
variable (g_fa : In_fa -> Out_fa) (p_fa : In_fa -> Bool) (g_ff : In_ff -> Out_ff) (p_ff : In_ff -> Bool) (g_fn : In_fn -> Out_fn) (p_fn : In_fn -> Bool)
abbrev X_fo : Ctx := ctx tys 23 (conOf [(59, ⟨M_fa, R_fa, p_fa, g_fa⟩), (60, ⟨M_ff, R_ff, p_ff, g_ff⟩), (61, ⟨M_fn, R_fn, p_fn, g_fn⟩)]) (keepOf []) (fun _ => [])
noncomputable abbrev E_fo (k : Nat) (x : In_fo) : Option Out_fo := evFn (X_fo g_fa p_fa g_ff p_ff g_fn p_fn) Tryz.f17 R_fo M_fo k x
variable {g_fa p_fa g_ff p_ff g_fn p_fn}
theorem ev_fo (k : Nat) (x0 : Dm (.imm S_HouHouse)) (x1 : Dm (.imm S_HouHouse)) : E_fo g_fa p_fa g_ff p_ff g_fn p_fn k (x0, x1, ()) =
  (cl (p_fa (x0.1, (x1.1, ()))) (g_fa (x0.1, (x1.1, ()))) fun y0 => (bif (bif y0.1 then false else true) then (some (false, ())) else (cl (p_ff (x0.2.1, (x1.2.1, ()))) (g_ff (x0.2.1, (x1.2.1, ()))) fun y1 => (bif (bif y1.1 then false else true) then (some (false, ())) else (cl (p_fn (x0.2.2, (x1.2.2, ()))) (g_fn (x0.2.2, (x1.2.2, ()))) fun y2 => (bif (bif y2.1 then false else true) then (some (false, ())) else (some (true, ())))))))) := by kernel_rfl
theorem S_fo (h_fa : C_fa p_fa g_fa) (h_ff : C_ff p_ff g_ff) (h_fn : C_fn p_fn g_fn) {pre : In_fo -> Bool} {fn : In_fo -> Out_fo} (hev : ∀ x, pre x = true -> ∃ k, E_fo g_fa p_fa g_ff p_ff g_fn p_fn k x = some (fn x)) : C_fo pre fn := sound tysOk mixed (fn := Tryz.f17) rfl rfl rfl (.cons h_fa (.cons h_ff (.cons h_fn .nil))) _ hev
end
/-! fp: leqReqReq -/
abbrev M_fp : List Vm.Mode := [.imm S_ReqReq, .imm S_ReqReq]
abbrev R_fp : List (RK × Sh) := [(.imm, .bool)]
abbrev In_fp : Type := (insSh M_fp).den
abbrev Out_fp : Type := (outSh R_fp M_fp).den
abbrev C_fp (pre : In_fp -> Bool) (fn : In_fp -> Out_fp) : Prop := Sound Tryz.prog 18 ⟨M_fp, R_fp, pre, fn⟩
section
variable (g_fb : In_fb -> Out_fb) (g_fd : In_fd -> Out_fd) (p_fd : In_fd -> Bool)
abbrev X_fp : Ctx := ctx tys 42 (conOf [(62, ⟨M_fb, R_fb, fun _ => true, g_fb⟩), (63, ⟨M_fd, R_fd, p_fd, g_fd⟩)]) (keepOf []) (fun _ => [])
noncomputable abbrev E_fp (k : Nat) (x : In_fp) : Option Out_fp := evFn (X_fp g_fb g_fd p_fd) Tryz.f18 R_fp M_fp k x
variable {g_fb g_fd p_fd}
theorem ev_fp (k : Nat) (x0 : Dm (.imm S_ReqReq)) (x1 : Dm (.imm S_ReqReq)) : E_fp g_fb g_fd p_fd k (x0, x1, ()) =
  (bif (bif (decide (x0.1 = x1.1)) then false else true) then (some (false, ())) else (bif (bif (decide (x0.2.1 = x1.2.1)) then false else true) then (some (false, ())) else (bif (bif (decide (x0.2.2.1 = x1.2.2.1)) then false else true) then (some (false, ())) else (bif (bif (decide (x0.2.2.2.1 = x1.2.2.2.1)) then false else true) then (some (false, ())) else (bif (bif (decide (x0.2.2.2.2.1 = x1.2.2.2.2.1)) then false else true) then (some (false, ())) else (bif (bif (g_fb (x0.2.2.2.2.2.1, (x1.2.2.2.2.2.1, ()))).1 then false else true) then (some (false, ())) else (cl (p_fd (x0.2.2.2.2.2.2, (x1.2.2.2.2.2.2, ()))) (g_fd (x0.2.2.2.2.2.2, (x1.2.2.2.2.2.2, ()))) fun y0 => (bif (bif y0.1 then false else true) then (some (false, ())) else (some (true, ())))))))))) := by kernel_rfl
theorem S_fp (h_fb : C_fb (fun _ => true) g_fb) (h_fd : C_fd p_fd g_fd) {pre : In_fp -> Bool} {fn : In_fp -> Out_fp} (hev : ∀ x, pre x = true -> ∃ k, E_fp g_fb g_fd p_fd k x = some (fn x)) : C_fp pre fn := sound tysOk mixed (fn := Tryz.f18) rfl rfl rfl (.cons h_fb (.cons h_fd .nil)) _ hev
end
/-! fq: lmarkIntS -/
abbrev M_fq : List Vm.Mode := [.lend 3 I, .imm I]
abbrev R_fq : List (RK × Sh) := [(.imm, I)]
abbrev In_fq : Type := (insSh M_fq).den
abbrev Out_fq : Type := (outSh R_fq M_fq).den
abbrev C_fq (pre : In_fq -> Bool) (fn : In_fq -> Out_fq) : Prop := Sound Tryz.prog 64 ⟨M_fq, R_fq, pre, fn⟩
abbrev X_fq : Ctx := ctx tys 19 (conOf []) (keepOf [(pt1, (⟨[(0, .asis), (1, .asis), (5, .asis)], [], [5000]⟩ : Keep))]) (fun _ => [])
noncomputable abbrev E_fq (k : Nat) (x : In_fq) : Option Out_fq := evFn X_fq Tryz.f64 R_fq M_fq k x
def h0_fq (x0 : Dm (.lend 3 I)) (x1 : Dm (.imm I)) (h0 : Dn I) (h1 : Dn I) (h2 : (List (Dn I))) : St := mkS [(0, (AV.sref 5000 none [])), (1, (AV.val I h0)), (5, (AV.val I h1))] [(5000, (Ob.arr 3 I h2))]
noncomputable def r_fq (x : In_fq) (k : Nat) (p : List Bool) (s : St) : Option Out_fq := rounds X_fq Tryz.f64 R_fq M_fq x k p s
theorem ev_fq (k : Nat) (x0 : Dm (.lend 3 I)) (x1 : Dm (.imm I)) : E_fq k (x0, x1, ()) =
  (r_fq  (x0, x1, ()) k pt1 (h0_fq x0 x1 x1 (0 : Int) x0)) := by kernel_rfl
theorem rd0_fq (k : Nat) (x0 : Dm (.lend 3 I)) (x1 : Dm (.imm I)) (h0 : Dn I) (h1 : Dn I) (h2 : (List (Dn I))) : r_fq  (x0, x1, ()) (k + 1) pt1 (h0_fq x0 x1 h0 h1 h2) =
  (bif (decide (h1 < (List.length h2 : Int))) then (bif (bif (decide ((0 : Int) <= h1)) then (decide (h1 < (List.length h2 : Int))) else false) then (r_fq  (x0, x1, ()) k pt1 (h0_fq x0 x1 (w64 (h0 + (1 : Int))) (w64 (h1 + (1 : Int))) (List.set h2 (Int.toNat h1) h0))) else none) else (some (h0, (h2, ())))) := by kernel_rfl
theorem S_fq  {pre : In_fq -> Bool} {fn : In_fq -> Out_fq} (hev : ∀ x, pre x = true -> ∃ k, E_fq k x = some (fn x)) : C_fq pre fn := sound tysOk mixed (fn := Tryz.f64) rfl rfl rfl ConsOk.nil _ hev
/-! fr: lmarkSpcTestS -/
abbrev M_fr : List Vm.Mode := [.lend 137 S_SpcTest, .imm I]
abbrev R_fr : List (RK × Sh) := [(.imm, I)]
abbrev In_fr : Type := (insSh M_fr).den
abbrev Out_fr : Type := (outSh R_fr M_fr).den
abbrev C_fr (pre : In_fr -> Bool) (fn : In_fr -> Out_fr) : Prop := Sound Tryz.prog 67 ⟨M_fr, R_fr, pre, fn⟩
abbrev X_fr : Ctx := ctx tys 59 (conOf []) (keepOf [(pt1, (⟨[(0, .asis), (1, .asis), (5, .asis)], [], [5000]⟩ : Keep))]) (fun _ => [])
noncomputable abbrev E_fr (k : Nat) (x : In_fr) : Option Out_fr := evFn X_fr Tryz.f67 R_fr M_fr k x
def h0_fr (x0 : Dm (.lend 137 S_SpcTest)) (x1 : Dm (.imm I)) (h0 : Dn I) (h1 : Dn I) (h2 : (List (Dn S_SpcTest))) : St := mkS [(0, (AV.sref 5000 none [])), (1, (AV.val I h0)), (5, (AV.val I h1))] [(5000, (Ob.arr 137 S_SpcTest h2))]
noncomputable def r_fr (x : In_fr) (k : Nat) (p : List Bool) (s : St) : Option Out_fr := rounds X_fr Tryz.f67 R_fr M_fr x k p s
theorem ev_fr (k : Nat) (x0 : Dm (.lend 137 S_SpcTest)) (x1 : Dm (.imm I)) : E_fr k (x0, x1, ()) =
  (r_fr  (x0, x1, ()) k pt1 (h0_fr x0 x1 x1 (0 : Int) x0)) := by kernel_rfl
theorem rd0_fr (k : Nat) (x0 : Dm (.lend 137 S_SpcTest)) (x1 : Dm (.imm I)) (h0 : Dn I) (h1 : Dn I) (h2 : (List (Dn S_SpcTest))) : r_fr  (x0, x1, ()) (k + 1) pt1 (h0_fr x0 x1 h0 h1 h2) =
  (lt (rdL (e := S_SpcTest) h2 h1) fun t0 => (lt (rdL (e := S_SpcTest) (List.set h2 (Int.toNat h1) (h0, t0.2)) h1) fun t1 => (lt (List.set (List.set h2 (Int.toNat h1) (h0, t0.2)) (Int.toNat h1) (t1.1, (((w64 (h0 + (1 : Int))), t1.2.1.2), t1.2.2))) fun t2 => (lt (rdL (e := S_SpcTest) t2 h1) fun t3 => (lt (w64 ((w64 (h0 + (1 : Int))) + (1 : Int))) fun t4 => (lt (List.set t2 (Int.toNat h1) (t3.1, ((t3.2.1.1, t4), t3.2.2))) fun t5 => (lt (rdL (e := S_SpcTest) t5 h1) fun t6 => (lt (List.set t5 (Int.toNat h1) (t6.1, (t6.2.1, (((w64 (t4 + (1 : Int))), t6.2.2.1.2), t6.2.2.2)))) fun t7 => (lt (rdL (e := S_SpcTest) t7 h1) fun t8 => (lt (w64 ((w64 (t4 + (1 : Int))) + (1 : Int))) fun t9 => (lt (List.set t7 (Int.toNat h1) (t8.1, (t8.2.1, ((t8.2.2.1.1, t9), t8.2.2.2)))) fun t10 => (lt (rdL (e := S_SpcTest) t10 h1) fun t12 => (bif (decide (h1 < (List.length h2 : Int))) then (bif (bif (decide ((0 : Int) <= h1)) then (decide (h1 < (List.length h2 : Int))) else false) then (bif (bif (decide ((0 : Int) <= h1)) then (decide (h1 < (List.length (List.set h2 (Int.toNat h1) (h0, t0.2)) : Int))) else false) then (bif (bif (decide ((0 : Int) <= h1)) then (decide (h1 < (List.length t2 : Int))) else false) then (bif (bif (decide ((0 : Int) <= h1)) then (decide (h1 < (List.length t5 : Int))) else false) then (bif (bif (decide ((0 : Int) <= h1)) then (decide (h1 < (List.length t7 : Int))) else false) then (bif (bif (decide ((0 : Int) <= h1)) then (decide (h1 < (List.length t10 : Int))) else false) then (r_fr  (x0, x1, ()) k pt1 (h0_fr x0 x1 (w64 ((w64 (t9 + (1 : Int))) + (1 : Int))) (w64 (h1 + (1 : Int))) (List.set t10 (Int.toNat h1) (t12.1, (t12.2.1, (t12.2.2.1, (w64 (t9 + (1 : Int))))))))) else none) else none) else none) else none) else none) else none) else (some (h0, (h2, ())))))))))))))))) := by kernel_rfl
theorem S_fr  {pre : In_fr -> Bool} {fn : In_fr -> Out_fr} (hev : ∀ x, pre x = true -> ∃ k, E_fr k x = some (fn x)) : C_fr pre fn := sound tysOk mixed (fn := Tryz.f67) rfl rfl rfl ConsOk.nil _ hev
/-! fs: lmarkSpcSpecS -/
abbrev M_fs : List Vm.Mode := [.lend 131 S_SpcSpec, .imm I]
abbrev R_fs : List (RK × Sh) := [(.imm, I)]
abbrev In_fs : Type := (insSh M_fs).den
abbrev Out_fs : Type := (outSh R_fs M_fs).den
abbrev C_fs (pre : In_fs -> Bool) (fn : In_fs -> Out_fs) : Prop := Sound Tryz.prog 65 ⟨M_fs, R_fs, pre, fn⟩
section
variable (g_fr : In_fr -> Out_fr) (p_fr : In_fr -> Bool)
abbrev X_fs : Ctx := ctx tys 27 (conOf [(67, ⟨M_fr, R_fr, p_fr, g_fr⟩)]) (keepOf [(pt1, (⟨[(0, .asis), (1, .asis), (5, .asis)], [], [5000]⟩ : Keep))]) (fun _ => [])
noncomputable abbrev E_fs (k : Nat) (x : In_fs) : Option Out_fs := evFn (X_fs g_fr p_fr) Tryz.f65 R_fs M_fs k x
def h0_fs (x0 : Dm (.lend 131 S_SpcSpec)) (x1 : Dm (.imm I)) (h0 : Dn I) (h1 : Dn I) (h2 : (List (Dn S_SpcSpec))) : St := mkS [(0, (AV.sref 5000 none [])), (1, (AV.val I h0)), (5, (AV.val I h1))] [(5000, (Ob.arr 131 S_SpcSpec h2))]
noncomputable def r_fs (x : In_fs) (k : Nat) (p : List Bool) (s : St) : Option Out_fs := rounds (X_fs g_fr p_fr) Tryz.f65 R_fs M_fs x k p s
variable {g_fr p_fr}
theorem ev_fs (k : Nat) (x0 : Dm (.lend 131 S_SpcSpec)) (x1 : Dm (.imm I)) : E_fs g_fr p_fr k (x0, x1, ()) =
  (r_fs g_fr p_fr (x0, x1, ()) k pt1 (h0_fs x0 x1 x1 (0 : Int) x0)) := by kernel_rfl
theorem rd0_fs (k : Nat) (x0 : Dm (.lend 131 S_SpcSpec)) (x1 : Dm (.imm I)) (h0 : Dn I) (h1 : Dn I) (h2 : (List (Dn S_SpcSpec))) : r_fs g_fr p_fr (x0, x1, ()) (k + 1) pt1 (h0_fs x0 x1 h0 h1 h2) =
  (bif (decide (h1 < (List.length h2 : Int))) then (bif (bif (decide ((0 : Int) <= h1)) then (decide (h1 < (List.length h2 : Int))) else false) then (cl (p_fr ((rdL (e := S_SpcSpec) h2 h1).1, (h0, ()))) (g_fr ((rdL (e := S_SpcSpec) h2 h1).1, (h0, ()))) fun y0 => (bif (bif (decide ((0 : Int) <= h1)) then (decide (h1 < (List.length (List.set h2 (Int.toNat h1) (y0.2.1, (rdL (e := S_SpcSpec) h2 h1).2)) : Int))) else false) then (r_fs g_fr p_fr (x0, x1, ()) k pt1 (h0_fs x0 x1 (w64 (y0.1 + (1 : Int))) (w64 (h1 + (1 : Int))) (List.set (List.set h2 (Int.toNat h1) (y0.2.1, (rdL (e := S_SpcSpec) h2 h1).2)) (Int.toNat h1) ((rdL (e := S_SpcSpec) (List.set h2 (Int.toNat h1) (y0.2.1, (rdL (e := S_SpcSpec) h2 h1).2)) h1).1, y0.1)))) else none)) else none) else (some (h0, (h2, ())))) := by kernel_rfl
theorem S_fs (h_fr : C_fr p_fr g_fr) {pre : In_fs -> Bool} {fn : In_fs -> Out_fs} (hev : ∀ x, pre x = true -> ∃ k, E_fs g_fr p_fr k x = some (fn x)) : C_fs pre fn := sound tysOk mixed (fn := Tryz.f65) rfl rfl rfl (.cons h_fr .nil) _ hev
end
/-! ft: lmarkDecDecS -/
abbrev M_ft : List Vm.Mode := [.lend 29 S_DecDec, .imm I]
abbrev R_ft : List (RK × Sh) := [(.imm, I)]
abbrev In_ft : Type := (insSh M_ft).den
abbrev Out_ft : Type := (outSh R_ft M_ft).den
abbrev C_ft (pre : In_ft -> Bool) (fn : In_ft -> Out_ft) : Prop := Sound Tryz.prog 178 ⟨M_ft, R_ft, pre, fn⟩
abbrev X_ft : Ctx := ctx tys 27 (conOf []) (keepOf [(pt1, (⟨[(0, .asis), (1, .asis), (5, .asis)], [], [5000]⟩ : Keep))]) (fun _ => [])
noncomputable abbrev E_ft (k : Nat) (x : In_ft) : Option Out_ft := evFn X_ft Tryz.f178 R_ft M_ft k x
def h0_ft (x0 : Dm (.lend 29 S_DecDec)) (x1 : Dm (.imm I)) (h0 : Dn I) (h1 : Dn I) (h2 : (List (Dn S_DecDec))) : St := mkS [(0, (AV.sref 5000 none [])), (1, (AV.val I h0)), (5, (AV.val I h1))] [(5000, (Ob.arr 29 S_DecDec h2))]
noncomputable def r_ft (x : In_ft) (k : Nat) (p : List Bool) (s : St) : Option Out_ft := rounds X_ft Tryz.f178 R_ft M_ft x k p s
theorem ev_ft (k : Nat) (x0 : Dm (.lend 29 S_DecDec)) (x1 : Dm (.imm I)) : E_ft k (x0, x1, ()) =
  (r_ft  (x0, x1, ()) k pt1 (h0_ft x0 x1 x1 (0 : Int) x0)) := by kernel_rfl
theorem rd0_ft (k : Nat) (x0 : Dm (.lend 29 S_DecDec)) (x1 : Dm (.imm I)) (h0 : Dn I) (h1 : Dn I) (h2 : (List (Dn S_DecDec))) : r_ft  (x0, x1, ()) (k + 1) pt1 (h0_ft x0 x1 h0 h1 h2) =
  (bif (decide (h1 < (List.length h2 : Int))) then (bif (bif (decide ((0 : Int) <= h1)) then (decide (h1 < (List.length h2 : Int))) else false) then (bif (bif (decide ((0 : Int) <= h1)) then (decide (h1 < (List.length (List.set h2 (Int.toNat h1) (h0, (rdL (e := S_DecDec) h2 h1).2)) : Int))) else false) then (r_ft  (x0, x1, ()) k pt1 (h0_ft x0 x1 (w64 ((w64 (h0 + (1 : Int))) + (1 : Int))) (w64 (h1 + (1 : Int))) (List.set (List.set h2 (Int.toNat h1) (h0, (rdL (e := S_DecDec) h2 h1).2)) (Int.toNat h1) ((rdL (e := S_DecDec) (List.set h2 (Int.toNat h1) (h0, (rdL (e := S_DecDec) h2 h1).2)) h1).1, (w64 (h0 + (1 : Int))))))) else none) else none) else (some (h0, (h2, ())))) := by kernel_rfl
theorem S_ft  {pre : In_ft -> Bool} {fn : In_ft -> Out_ft} (hev : ∀ x, pre x = true -> ∃ k, E_ft k x = some (fn x)) : C_ft pre fn := sound tysOk mixed (fn := Tryz.f178) rfl rfl rfl ConsOk.nil _ hev
/-! fu: lmarkTstTestS -/
abbrev M_fu : List Vm.Mode := [.lend 140 S_TstTest, .imm I]
abbrev R_fu : List (RK × Sh) := [(.imm, I)]
abbrev In_fu : Type := (insSh M_fu).den
abbrev Out_fu : Type := (outSh R_fu M_fu).den
abbrev C_fu (pre : In_fu -> Bool) (fn : In_fu -> Out_fu) : Prop := Sound Tryz.prog 121 ⟨M_fu, R_fu, pre, fn⟩
section
variable (g_ft : In_ft -> Out_ft) (p_ft : In_ft -> Bool)
abbrev X_fu : Ctx := ctx tys 102 (conOf [(178, ⟨M_ft, R_ft, p_ft, g_ft⟩)]) (keepOf [(pt1, (⟨[(0, .asis), (1, .asis), (5, .asis)], [], [5000]⟩ : Keep))]) (fun _ => [])
noncomputable abbrev E_fu (k : Nat) (x : In_fu) : Option Out_fu := evFn (X_fu g_ft p_ft) Tryz.f121 R_fu M_fu k x
def h0_fu (x0 : Dm (.lend 140 S_TstTest)) (x1 : Dm (.imm I)) (h0 : Dn I) (h1 : Dn I) (h2 : (List (Dn S_TstTest))) : St := mkS [(0, (AV.sref 5000 none [])), (1, (AV.val I h0)), (5, (AV.val I h1))] [(5000, (Ob.arr 140 S_TstTest h2))]
noncomputable def r_fu (x : In_fu) (k : Nat) (p : List Bool) (s : St) : Option Out_fu := rounds (X_fu g_ft p_ft) Tryz.f121 R_fu M_fu x k p s
variable {g_ft p_ft}
theorem ev_fu (k : Nat) (x0 : Dm (.lend 140 S_TstTest)) (x1 : Dm (.imm I)) : E_fu g_ft p_ft k (x0, x1, ()) =
  (r_fu g_ft p_ft (x0, x1, ()) k pt1 (h0_fu x0 x1 x1 (0 : Int) x0)) := by kernel_rfl
theorem rd0_fu (k : Nat) (x0 : Dm (.lend 140 S_TstTest)) (x1 : Dm (.imm I)) (h0 : Dn I) (h1 : Dn I) (h2 : (List (Dn S_TstTest))) : r_fu g_ft p_ft (x0, x1, ()) (k + 1) pt1 (h0_fu x0 x1 h0 h1 h2) =
  (lt (rdL (e := S_TstTest) h2 h1) fun t0 => (lt (List.set h2 (Int.toNat h1) ((h0, t0.1.2), t0.2)) fun s0 => (lt (rdL (e := S_TstTest) s0 h1) fun t1 => (lt (List.set s0 (Int.toNat h1) ((t1.1.1, (((w64 (h0 + (1 : Int))), t1.1.2.1.2), t1.1.2.2)), t1.2)) fun t2 => (lt (rdL (e := S_TstTest) t2 h1) fun t3 => (lt (w64 ((w64 (h0 + (1 : Int))) + (1 : Int))) fun t4 => (lt (List.set t2 (Int.toNat h1) ((t3.1.1, ((t3.1.2.1.1, t4), t3.1.2.2)), t3.2)) fun t5 => (lt (rdL (e := S_TstTest) t5 h1) fun t6 => (lt (List.set t5 (Int.toNat h1) ((t6.1.1, (t6.1.2.1, (((w64 (t4 + (1 : Int))), t6.1.2.2.1.2), t6.1.2.2.2))), t6.2)) fun t7 => (lt (rdL (e := S_TstTest) t7 h1) fun t8 => (lt (w64 ((w64 (t4 + (1 : Int))) + (1 : Int))) fun t9 => (lt (List.set t7 (Int.toNat h1) ((t8.1.1, (t8.1.2.1, ((t8.1.2.2.1.1, t9), t8.1.2.2.2))), t8.2)) fun t10 => (lt (rdL (e := S_TstTest) t10 h1) fun t11 => (lt (List.set t10 (Int.toNat h1) ((t11.1.1, (t11.1.2.1, (t11.1.2.2.1, (w64 (t9 + (1 : Int)))))), t11.2)) fun t12 => (lt (rdL (e := S_TstTest) t12 h1) fun t13 => (lt (w64 ((w64 (t9 + (1 : Int))) + (1 : Int))) fun t14 => (lt (List.set t12 (Int.toNat h1) (t13.1, (t14, t13.2.2))) fun s1 => (lt (rdL (e := S_TstTest) s1 h1) fun t15 => (lt (List.set s1 (Int.toNat h1) (t15.1, (t15.2.1, (((w64 (t14 + (1 : Int))), t15.2.2.1.2), t15.2.2.2)))) fun t16 => (lt (rdL (e := S_TstTest) t16 h1) fun t17 => (lt (w64 ((w64 (t14 + (1 : Int))) + (1 : Int))) fun t18 => (lt (List.set t16 (Int.toNat h1) (t17.1, (t17.2.1, ((t17.2.2.1.1, t18), t17.2.2.2)))) fun t19 => (lt (rdL (e := S_TstTest) t19 h1) fun t20 => (lt (List.set t19 (Int.toNat h1) (t20.1, (t20.2.1, (t20.2.2.1, ((w64 (t18 + (1 : Int))), t20.2.2.2.2))))) fun t21 => (lt (rdL (e := S_TstTest) t21 h1) fun t22 => (lt (w64 ((w64 (t18 + (1 : Int))) + (1 : Int))) fun t23 => (bif (decide (h1 < (List.length h2 : Int))) then (bif (bif (decide ((0 : Int) <= h1)) then (decide (h1 < (List.length h2 : Int))) else false) then (bif (bif (decide ((0 : Int) <= h1)) then (decide (h1 < (List.length s0 : Int))) else false) then (bif (bif (decide ((0 : Int) <= h1)) then (decide (h1 < (List.length t2 : Int))) else false) then (bif (bif (decide ((0 : Int) <= h1)) then (decide (h1 < (List.length t5 : Int))) else false) then (bif (bif (decide ((0 : Int) <= h1)) then (decide (h1 < (List.length t7 : Int))) else false) then (bif (bif (decide ((0 : Int) <= h1)) then (decide (h1 < (List.length t10 : Int))) else false) then (bif (bif (decide ((0 : Int) <= h1)) then (decide (h1 < (List.length t12 : Int))) else false) then (bif (bif (decide ((0 : Int) <= h1)) then (decide (h1 < (List.length s1 : Int))) else false) then (bif (bif (decide ((0 : Int) <= h1)) then (decide (h1 < (List.length t16 : Int))) else false) then (bif (bif (decide ((0 : Int) <= h1)) then (decide (h1 < (List.length t19 : Int))) else false) then (bif (bif (decide ((0 : Int) <= h1)) then (decide (h1 < (List.length t21 : Int))) else false) then (cl (p_ft (t22.2.2.2.2, (t23, ()))) (g_ft (t22.2.2.2.2, (t23, ()))) fun y0 => (r_fu g_ft p_ft (x0, x1, ()) k pt1 (h0_fu x0 x1 (y0.1) (w64 (h1 + (1 : Int))) (List.set t21 (Int.toNat h1) (t22.1, (t22.2.1, (t22.2.2.1, (t22.2.2.2.1, y0.2.1)))))))) else none) else none) else none) else none) else none) else none) else none) else none) else none) else none) else none) else (some (h0, (h2, ())))))))))))))))))))))))))))))) := by kernel_rfl
theorem S_fu (h_ft : C_ft p_ft g_ft) {pre : In_fu -> Bool} {fn : In_fu -> Out_fu} (hev : ∀ x, pre x = true -> ∃ k, E_fu g_ft p_ft k x = some (fn x)) : C_fu pre fn := sound tysOk mixed (fn := Tryz.f121) rfl rfl rfl (.cons h_ft .nil) _ hev
end
/-! fv: lmarkBatSigS -/
abbrev M_fv : List Vm.Mode := [.lend 142 S_DayDay, .imm I]
abbrev R_fv : List (RK × Sh) := [(.imm, I)]
abbrev In_fv : Type := (insSh M_fv).den
abbrev Out_fv : Type := (outSh R_fv M_fv).den
abbrev C_fv (pre : In_fv -> Bool) (fn : In_fv -> Out_fv) : Prop := Sound Tryz.prog 122 ⟨M_fv, R_fv, pre, fn⟩
abbrev X_fv : Ctx := ctx tys 34 (conOf []) (keepOf [(pt1, (⟨[(0, .asis), (1, .asis), (5, .asis)], [], [5000]⟩ : Keep))]) (fun _ => [])
noncomputable abbrev E_fv (k : Nat) (x : In_fv) : Option Out_fv := evFn X_fv Tryz.f122 R_fv M_fv k x
def h0_fv (x0 : Dm (.lend 142 S_DayDay)) (x1 : Dm (.imm I)) (h0 : Dn I) (h1 : Dn I) (h2 : (List (Dn S_DayDay))) : St := mkS [(0, (AV.sref 5000 none [])), (1, (AV.val I h0)), (5, (AV.val I h1))] [(5000, (Ob.arr 142 S_DayDay h2))]
noncomputable def r_fv (x : In_fv) (k : Nat) (p : List Bool) (s : St) : Option Out_fv := rounds X_fv Tryz.f122 R_fv M_fv x k p s
theorem ev_fv (k : Nat) (x0 : Dm (.lend 142 S_DayDay)) (x1 : Dm (.imm I)) : E_fv k (x0, x1, ()) =
  (r_fv  (x0, x1, ()) k pt1 (h0_fv x0 x1 x1 (0 : Int) x0)) := by kernel_rfl
theorem rd0_fv (k : Nat) (x0 : Dm (.lend 142 S_DayDay)) (x1 : Dm (.imm I)) (h0 : Dn I) (h1 : Dn I) (h2 : (List (Dn S_DayDay))) : r_fv  (x0, x1, ()) (k + 1) pt1 (h0_fv x0 x1 h0 h1 h2) =
  (lt (rdL (e := S_DayDay) h2 h1) fun s1 => (lt (List.set h2 (Int.toNat h1) (h0, s1.2)) fun s2 => (lt (w64 (h0 + (1 : Int))) fun s0 => (bif (decide (h1 < (List.length h2 : Int))) then (bif (bif (decide ((0 : Int) <= h1)) then (decide (h1 < (List.length h2 : Int))) else false) then (bif (bif (decide ((0 : Int) <= h1)) then (decide (h1 < (List.length s2 : Int))) else false) then (bif (bif (decide ((0 : Int) <= h1)) then (decide (h1 < (List.length (List.set s2 (Int.toNat h1) ((rdL (e := S_DayDay) s2 h1).1, (s0, (rdL (e := S_DayDay) s2 h1).2.2))) : Int))) else false) then (r_fv  (x0, x1, ()) k pt1 (h0_fv x0 x1 (w64 ((w64 (s0 + (1 : Int))) + (1 : Int))) (w64 (h1 + (1 : Int))) (List.set (List.set s2 (Int.toNat h1) ((rdL (e := S_DayDay) s2 h1).1, (s0, (rdL (e := S_DayDay) s2 h1).2.2))) (Int.toNat h1) ((rdL (e := S_DayDay) (List.set s2 (Int.toNat h1) ((rdL (e := S_DayDay) s2 h1).1, (s0, (rdL (e := S_DayDay) s2 h1).2.2))) h1).1, ((rdL (e := S_DayDay) (List.set s2 (Int.toNat h1) ((rdL (e := S_DayDay) s2 h1).1, (s0, (rdL (e := S_DayDay) s2 h1).2.2))) h1).2.1, (w64 (s0 + (1 : Int)))))))) else none) else none) else none) else (some (h0, (h2, ()))))))) := by kernel_rfl
theorem S_fv  {pre : In_fv -> Bool} {fn : In_fv -> Out_fv} (hev : ∀ x, pre x = true -> ∃ k, E_fv k x = some (fn x)) : C_fv pre fn := sound tysOk mixed (fn := Tryz.f122) rfl rfl rfl ConsOk.nil _ hev
/-! fw: lmarkBoolS -/
abbrev M_fw : List Vm.Mode := [.lend 4 .bool, .imm I]
abbrev R_fw : List (RK × Sh) := [(.imm, I)]
abbrev In_fw : Type := (insSh M_fw).den
abbrev Out_fw : Type := (outSh R_fw M_fw).den
abbrev C_fw (pre : In_fw -> Bool) (fn : In_fw -> Out_fw) : Prop := Sound Tryz.prog 123 ⟨M_fw, R_fw, pre, fn⟩
abbrev X_fw : Ctx := ctx tys 21 (conOf []) (keepOf [(pt1, (⟨[(0, .asis), (1, .asis), (5, .asis)], [], [5000]⟩ : Keep))]) (fun _ => [])
noncomputable abbrev E_fw (k : Nat) (x : In_fw) : Option Out_fw := evFn X_fw Tryz.f123 R_fw M_fw k x
def h0_fw (x0 : Dm (.lend 4 .bool)) (x1 : Dm (.imm I)) (h0 : Dn I) (h1 : Dn I) (h2 : (List (Dn Sh.bool))) : St := mkS [(0, (AV.sref 5000 none [])), (1, (AV.val I h0)), (5, (AV.val I h1))] [(5000, (Ob.arr 4 Sh.bool h2))]
noncomputable def r_fw (x : In_fw) (k : Nat) (p : List Bool) (s : St) : Option Out_fw := rounds X_fw Tryz.f123 R_fw M_fw x k p s
theorem ev_fw (k : Nat) (x0 : Dm (.lend 4 .bool)) (x1 : Dm (.imm I)) : E_fw k (x0, x1, ()) =
  (r_fw  (x0, x1, ()) k pt1 (h0_fw x0 x1 x1 (0 : Int) x0)) := by kernel_rfl
theorem rd0_fw (k : Nat) (x0 : Dm (.lend 4 .bool)) (x1 : Dm (.imm I)) (h0 : Dn I) (h1 : Dn I) (h2 : (List (Dn Sh.bool))) : r_fw  (x0, x1, ()) (k + 1) pt1 (h0_fw x0 x1 h0 h1 h2) =
  (bif (decide (h1 < (List.length h2 : Int))) then (bif (bif (decide ((3 : Int) = (0 : Int))) then false else true) then (bif (bif (decide ((0 : Int) <= h1)) then (decide (h1 < (List.length h2 : Int))) else false) then (r_fw  (x0, x1, ()) k pt1 (h0_fw x0 x1 (w64 (h0 + (1 : Int))) (w64 (h1 + (1 : Int))) (List.set h2 (Int.toNat h1) (decide ((Int.tmod h0 (3 : Int)) = (0 : Int)))))) else none) else none) else (some (h0, (h2, ())))) := by kernel_rfl
theorem S_fw  {pre : In_fw -> Bool} {fn : In_fw -> Out_fw} (hev : ∀ x, pre x = true -> ∃ k, E_fw k x = some (fn x)) : C_fw pre fn := sound tysOk mixed (fn := Tryz.f123) rfl rfl rfl ConsOk.nil _ hev
/-! fx: lmarkBatBatchS -/
abbrev M_fx : List Vm.Mode := [.lend 76 S_BatBatch, .imm I]
abbrev R_fx : List (RK × Sh) := [(.imm, I)]
abbrev In_fx : Type := (insSh M_fx).den
abbrev Out_fx : Type := (outSh R_fx M_fx).den
abbrev C_fx (pre : In_fx -> Bool) (fn : In_fx -> Out_fx) : Prop := Sound Tryz.prog 66 ⟨M_fx, R_fx, pre, fn⟩
section
variable (g_fu : In_fu -> Out_fu) (p_fu : In_fu -> Bool) (g_fv : In_fv -> Out_fv) (p_fv : In_fv -> Bool) (g_fw : In_fw -> Out_fw) (p_fw : In_fw -> Bool)
abbrev X_fx : Ctx := ctx tys 55 (conOf [(121, ⟨M_fu, R_fu, p_fu, g_fu⟩), (122, ⟨M_fv, R_fv, p_fv, g_fv⟩), (123, ⟨M_fw, R_fw, p_fw, g_fw⟩)]) (keepOf [(pt1, (⟨[(0, .asis), (1, .asis), (5, .asis)], [], [5000]⟩ : Keep))]) (fun _ => [])
noncomputable abbrev E_fx (k : Nat) (x : In_fx) : Option Out_fx := evFn (X_fx g_fu p_fu g_fv p_fv g_fw p_fw) Tryz.f66 R_fx M_fx k x
def h0_fx (x0 : Dm (.lend 76 S_BatBatch)) (x1 : Dm (.imm I)) (h0 : Dn I) (h1 : Dn I) (h2 : (List (Dn S_BatBatch))) : St := mkS [(0, (AV.sref 5000 none [])), (1, (AV.val I h0)), (5, (AV.val I h1))] [(5000, (Ob.arr 76 S_BatBatch h2))]
noncomputable def r_fx (x : In_fx) (k : Nat) (p : List Bool) (s : St) : Option Out_fx := rounds (X_fx g_fu p_fu g_fv p_fv g_fw p_fw) Tryz.f66 R_fx M_fx x k p s
variable {g_fu p_fu g_fv p_fv g_fw p_fw}
theorem ev_fx (k : Nat) (x0 : Dm (.lend 76 S_BatBatch)) (x1 : Dm (.imm I)) : E_fx g_fu p_fu g_fv p_fv g_fw p_fw k (x0, x1, ()) =
  (r_fx g_fu p_fu g_fv p_fv g_fw p_fw (x0, x1, ()) k pt1 (h0_fx x0 x1 x1 (0 : Int) x0)) := by kernel_rfl
theorem rd0_fx (k : Nat) (x0 : Dm (.lend 76 S_BatBatch)) (x1 : Dm (.imm I)) (h0 : Dn I) (h1 : Dn I) (h2 : (List (Dn S_BatBatch))) : r_fx g_fu p_fu g_fv p_fv g_fw p_fw (x0, x1, ()) (k + 1) pt1 (h0_fx x0 x1 h0 h1 h2) =
  (lt (rdL (e := S_BatBatch) h2 h1) fun t0 => (lt (rdL (e := S_BatBatch) (List.set h2 (Int.toNat h1) (h0, t0.2)) h1) fun t1 => (lt (List.set (List.set h2 (Int.toNat h1) (h0, t0.2)) (Int.toNat h1) (t1.1, ((w64 (h0 + (1 : Int))), t1.2.2))) fun t2 => (lt (rdL (e := S_BatBatch) t2 h1) fun t3 => (lt (w64 ((w64 (h0 + (1 : Int))) + (1 : Int))) fun t4 => (lt (List.set t2 (Int.toNat h1) (t3.1, (t3.2.1, ((g_fu (t3.2.2.1, (t4, ()))).2.1, t3.2.2.2)))) fun t5 => (lt (rdL (e := S_BatBatch) t5 h1) fun t6 => (lt (List.set t5 (Int.toNat h1) (t6.1, (t6.2.1, (t6.2.2.1, ((g_fu (t3.2.2.1, (t4, ()))).1, t6.2.2.2.2))))) fun t7 => (lt (rdL (e := S_BatBatch) t7 h1) fun t8 => (lt (w64 ((g_fu (t3.2.2.1, (t4, ()))).1 + (1 : Int))) fun t9 => (lt (List.set t7 (Int.toNat h1) (t8.1, (t8.2.1, (t8.2.2.1, (t8.2.2.2.1, ((g_fv (t8.2.2.2.2.1, (t9, ()))).2.1, t8.2.2.2.2.2)))))) fun t10 => (lt (rdL (e := S_BatBatch) t10 h1) fun t11 => (bif (decide (h1 < (List.length h2 : Int))) then (bif (bif (decide ((0 : Int) <= h1)) then (decide (h1 < (List.length h2 : Int))) else false) then (bif (bif (decide ((0 : Int) <= h1)) then (decide (h1 < (List.length (List.set h2 (Int.toNat h1) (h0, t0.2)) : Int))) else false) then (bif (bif (decide ((0 : Int) <= h1)) then (decide (h1 < (List.length t2 : Int))) else false) then (bif (p_fu (t3.2.2.1, (t4, ()))) then (bif (bif (decide ((0 : Int) <= h1)) then (decide (h1 < (List.length t5 : Int))) else false) then (bif (bif (decide ((0 : Int) <= h1)) then (decide (h1 < (List.length t7 : Int))) else false) then (cl (p_fv (t8.2.2.2.2.1, (t9, ()))) (g_fv (t8.2.2.2.2.1, (t9, ()))) fun y0 => (bif (bif (decide ((0 : Int) <= h1)) then (decide (h1 < (List.length t10 : Int))) else false) then (cl (p_fw (t11.2.2.2.2.2, (y0.1, ()))) (g_fw (t11.2.2.2.2.2, (y0.1, ()))) fun y1 => (r_fx g_fu p_fu g_fv p_fv g_fw p_fw (x0, x1, ()) k pt1 (h0_fx x0 x1 (y1.1) (w64 (h1 + (1 : Int))) (List.set t10 (Int.toNat h1) (t11.1, (t11.2.1, (t11.2.2.1, (t11.2.2.2.1, (t11.2.2.2.2.1, y1.2.1))))))))) else none)) else none) else none) else none) else none) else none) else none) else (some (h0, (h2, ())))))))))))))))) := by kernel_rfl
theorem S_fx (h_fu : C_fu p_fu g_fu) (h_fv : C_fv p_fv g_fv) (h_fw : C_fw p_fw g_fw) {pre : In_fx -> Bool} {fn : In_fx -> Out_fx} (hev : ∀ x, pre x = true -> ∃ k, E_fx g_fu p_fu g_fv p_fv g_fw p_fw k x = some (fn x)) : C_fx pre fn := sound tysOk mixed (fn := Tryz.f66) rfl rfl rfl (.cons h_fu (.cons h_fv (.cons h_fw .nil))) _ hev
end
/-! fy: lmarkHouHouse -/
abbrev M_fy : List Vm.Mode := [.loan S_HouHouse, .imm I]
abbrev R_fy : List (RK × Sh) := [(.imm, I)]
abbrev In_fy : Type := (insSh M_fy).den
abbrev Out_fy : Type := (outSh R_fy M_fy).den
abbrev C_fy (pre : In_fy -> Bool) (fn : In_fy -> Out_fy) : Prop := Sound Tryz.prog 19 ⟨M_fy, R_fy, pre, fn⟩
section
variable (g_fq : In_fq -> Out_fq) (p_fq : In_fq -> Bool) (g_fs : In_fs -> Out_fs) (p_fs : In_fs -> Bool) (g_fx : In_fx -> Out_fx) (p_fx : In_fx -> Bool)
abbrev X_fy : Ctx := ctx tys 18 (conOf [(64, ⟨M_fq, R_fq, p_fq, g_fq⟩), (65, ⟨M_fs, R_fs, p_fs, g_fs⟩), (66, ⟨M_fx, R_fx, p_fx, g_fx⟩)]) (keepOf []) (fun _ => [])
noncomputable abbrev E_fy (k : Nat) (x : In_fy) : Option Out_fy := evFn (X_fy g_fq p_fq g_fs p_fs g_fx p_fx) Tryz.f19 R_fy M_fy k x
variable {g_fq p_fq g_fs p_fs g_fx p_fx}
theorem ev_fy (k : Nat) (x0 : Dm (.loan S_HouHouse)) (x1 : Dm (.imm I)) : E_fy g_fq p_fq g_fs p_fs g_fx p_fx k (x0, x1, ()) =
  (cl (p_fq (x0.1, (x1, ()))) (g_fq (x0.1, (x1, ()))) fun y0 => (cl (p_fs (x0.2.1, (y0.1, ()))) (g_fs (x0.2.1, (y0.1, ()))) fun y1 => (cl (p_fx (x0.2.2, (y1.1, ()))) (g_fx (x0.2.2, (y1.1, ()))) fun y2 => (some (y2.1, ((y0.2.1, (y1.2.1, y2.2.1)), ())))))) := by kernel_rfl
theorem S_fy (h_fq : C_fq p_fq g_fq) (h_fs : C_fs p_fs g_fs) (h_fx : C_fx p_fx g_fx) {pre : In_fy -> Bool} {fn : In_fy -> Out_fy} (hev : ∀ x, pre x = true -> ∃ k, E_fy g_fq p_fq g_fs p_fs g_fx p_fx k x = some (fn x)) : C_fy pre fn := sound tysOk mixed (fn := Tryz.f19) rfl rfl rfl (.cons h_fq (.cons h_fs (.cons h_fx .nil))) _ hev
end
/-! fz: lmarkReqReq -/
abbrev M_fz : List Vm.Mode := [.loan S_ReqReq, .imm I]
abbrev R_fz : List (RK × Sh) := [(.imm, I)]
abbrev In_fz : Type := (insSh M_fz).den
abbrev Out_fz : Type := (outSh R_fz M_fz).den
abbrev C_fz (pre : In_fz -> Bool) (fn : In_fz -> Out_fz) : Prop := Sound Tryz.prog 20 ⟨M_fz, R_fz, pre, fn⟩
section
variable (g_fr : In_fr -> Out_fr) (p_fr : In_fr -> Bool)
abbrev X_fz : Ctx := ctx tys 10 (conOf [(67, ⟨M_fr, R_fr, p_fr, g_fr⟩)]) (keepOf []) (fun _ => [])
noncomputable abbrev E_fz (k : Nat) (x : In_fz) : Option Out_fz := evFn (X_fz g_fr p_fr) Tryz.f20 R_fz M_fz k x
variable {g_fr p_fr}
theorem ev_fz (k : Nat) (x0 : Dm (.loan S_ReqReq)) (x1 : Dm (.imm I)) : E_fz g_fr p_fr k (x0, x1, ()) =
  (cl (p_fr (x0.2.2.2.2.2.2, (x1, ()))) (g_fr (x0.2.2.2.2.2.2, (x1, ()))) fun y0 => (some (y0.1, ((x0.1, (x0.2.1, (x0.2.2.1, (x0.2.2.2.1, (x0.2.2.2.2.1, (x0.2.2.2.2.2.1, y0.2.1)))))), ())))) := by kernel_rfl
theorem S_fz (h_fr : C_fr p_fr g_fr) {pre : In_fz -> Bool} {fn : In_fz -> Out_fz} (hev : ∀ x, pre x = true -> ∃ k, E_fz g_fr p_fr k x = some (fn x)) : C_fz pre fn := sound tysOk mixed (fn := Tryz.f20) rfl rfl rfl (.cons h_fr .nil) _ hev
end
/-! g0: lheldIntS -/
abbrev M_g0 : List Vm.Mode := [.imm L_int, .imm I]
abbrev R_g0 : List (RK × Sh) := [(.imm, I)]
abbrev In_g0 : Type := (insSh M_g0).den
abbrev Out_g0 : Type := (outSh R_g0 M_g0).den
abbrev C_g0 (pre : In_g0 -> Bool) (fn : In_g0 -> Out_g0) : Prop := Sound Tryz.prog 68 ⟨M_g0, R_g0, pre, fn⟩
abbrev X_g0 : Ctx := ctx tys 21 (conOf []) (keepOf [(pt1, (⟨[(0, .asis), (1, .asis), (5, .asis)], [], []⟩ : Keep))]) (fun _ => [])
noncomputable abbrev E_g0 (k : Nat) (x : In_g0) : Option Out_g0 := evFn X_g0 Tryz.f68 R_g0 M_g0 k x
def h0_g0 (x0 : Dm (.imm L_int)) (x1 : Dm (.imm I)) (h0 : Dn I) (h1 : Dn I) : St := mkS [(0, (AV.val L_int x0)), (1, (AV.val I h0)), (5, (AV.val I h1))] []
noncomputable def r_g0 (x : In_g0) (k : Nat) (p : List Bool) (s : St) : Option Out_g0 := rounds X_g0 Tryz.f68 R_g0 M_g0 x k p s
theorem ev_g0 (k : Nat) (x0 : Dm (.imm L_int)) (x1 : Dm (.imm I)) : E_g0 k (x0, x1, ()) =
  (r_g0  (x0, x1, ()) k pt1 (h0_g0 x0 x1 x1 (0 : Int))) := by kernel_rfl
theorem rd0_g0 (k : Nat) (x0 : Dm (.imm L_int)) (x1 : Dm (.imm I)) (h0 : Dn I) (h1 : Dn I) : r_g0  (x0, x1, ()) (k + 1) pt1 (h0_g0 x0 x1 h0 h1) =
  (bif (decide (h1 < (List.length x0 : Int))) then (bif (bif (decide ((0 : Int) <= h1)) then (decide (h1 < (List.length x0 : Int))) else false) then (bif (bif (decide ((rdL (e := I) x0 h1) = h0)) then false else true) then (some ((-1 : Int), ())) else (r_g0  (x0, x1, ()) k pt1 (h0_g0 x0 x1 (w64 (h0 + (1 : Int))) (w64 (h1 + (1 : Int)))))) else none) else (some (h0, ()))) := by kernel_rfl
theorem S_g0  {pre : In_g0 -> Bool} {fn : In_g0 -> Out_g0} (hev : ∀ x, pre x = true -> ∃ k, E_g0 k x = some (fn x)) : C_g0 pre fn := sound tysOk mixed (fn := Tryz.f68) rfl rfl rfl ConsOk.nil _ hev
/-! g1: lheldSpcTestS -/
abbrev M_g1 : List Vm.Mode := [.imm L_SpcTest, .imm I]
abbrev R_g1 : List (RK × Sh) := [(.imm, I)]
abbrev In_g1 : Type := (insSh M_g1).den
abbrev Out_g1 : Type := (outSh R_g1 M_g1).den
abbrev C_g1 (pre : In_g1 -> Bool) (fn : In_g1 -> Out_g1) : Prop := Sound Tryz.prog 124 ⟨M_g1, R_g1, pre, fn⟩
abbrev X_g1 : Ctx := ctx tys 71 (conOf []) (keepOf [(pt1, (⟨[(0, .asis), (1, .asis), (5, .asis)], [], []⟩ : Keep))]) (fun _ => [])
noncomputable abbrev E_g1 (k : Nat) (x : In_g1) : Option Out_g1 := evFn X_g1 Tryz.f124 R_g1 M_g1 k x
def h0_g1 (x0 : Dm (.imm L_SpcTest)) (x1 : Dm (.imm I)) (h0 : Dn I) (h1 : Dn I) : St := mkS [(0, (AV.val L_SpcTest x0)), (1, (AV.val I h0)), (5, (AV.val I h1))] []
noncomputable def r_g1 (x : In_g1) (k : Nat) (p : List Bool) (s : St) : Option Out_g1 := rounds X_g1 Tryz.f124 R_g1 M_g1 x k p s
theorem ev_g1 (k : Nat) (x0 : Dm (.imm L_SpcTest)) (x1 : Dm (.imm I)) : E_g1 k (x0, x1, ()) =
  (r_g1  (x0, x1, ()) k pt1 (h0_g1 x0 x1 x1 (0 : Int))) := by kernel_rfl
theorem rd0_g1 (k : Nat) (x0 : Dm (.imm L_SpcTest)) (x1 : Dm (.imm I)) (h0 : Dn I) (h1 : Dn I) : r_g1  (x0, x1, ()) (k + 1) pt1 (h0_g1 x0 x1 h0 h1) =
  (lt (rdL (e := S_SpcTest) x0 h1) fun s4 => (lt (w64 (h0 + (1 : Int))) fun s0 => (lt (w64 (s0 + (1 : Int))) fun s1 => (lt (w64 (s1 + (1 : Int))) fun s2 => (lt (w64 (s2 + (1 : Int))) fun s3 => (bif (decide (h1 < (List.length x0 : Int))) then (bif (bif (decide ((0 : Int) <= h1)) then (decide (h1 < (List.length x0 : Int))) else false) then (bif (bif (decide (s4.1 = h0)) then false else true) then (some ((-1 : Int), ())) else (bif (bif (decide ((0 : Int) <= h1)) then (decide (h1 < (List.length x0 : Int))) else false) then (bif (bif (decide (s4.2.1.1 = s0)) then false else true) then (some ((-1 : Int), ())) else (bif (bif (decide ((0 : Int) <= h1)) then (decide (h1 < (List.length x0 : Int))) else false) then (bif (bif (decide (s4.2.1.2 = s1)) then false else true) then (some ((-1 : Int), ())) else (bif (bif (decide ((0 : Int) <= h1)) then (decide (h1 < (List.length x0 : Int))) else false) then (bif (bif (decide (s4.2.2.1.1 = s2)) then false else true) then (some ((-1 : Int), ())) else (bif (bif (decide ((0 : Int) <= h1)) then (decide (h1 < (List.length x0 : Int))) else false) then (bif (bif (decide (s4.2.2.1.2 = s3)) then false else true) then (some ((-1 : Int), ())) else (bif (bif (decide ((0 : Int) <= h1)) then (decide (h1 < (List.length x0 : Int))) else false) then (bif (bif (decide (s4.2.2.2 = (w64 (s3 + (1 : Int))))) then false else true) then (some ((-1 : Int), ())) else (r_g1  (x0, x1, ()) k pt1 (h0_g1 x0 x1 (w64 ((w64 (s3 + (1 : Int))) + (1 : Int))) (w64 (h1 + (1 : Int)))))) else none)) else none)) else none)) else none)) else none)) else none) else (some (h0, ())))))))) := by kernel_rfl
theorem S_g1  {pre : In_g1 -> Bool} {fn : In_g1 -> Out_g1} (hev : ∀ x, pre x = true -> ∃ k, E_g1 k x = some (fn x)) : C_g1 pre fn := sound tysOk mixed (fn := Tryz.f124) rfl rfl rfl ConsOk.nil _ hev
/-! g2: lheldSpcSpecS -/
abbrev M_g2 : List Vm.Mode := [.imm L_SpcSpec, .imm I]
abbrev R_g2 : List (RK × Sh) := [(.imm, I)]
abbrev In_g2 : Type := (insSh M_g2).den
abbrev Out_g2 : Type := (outSh R_g2 M_g2).den
abbrev C_g2 (pre : In_g2 -> Bool) (fn : In_g2 -> Out_g2) : Prop := Sound Tryz.prog 69 ⟨M_g2, R_g2, pre, fn⟩
section
variable (g_g1 : In_g1 -> Out_g1) (p_g1 : In_g1 -> Bool)
abbrev X_g2 : Ctx := ctx tys 31 (conOf [(124, ⟨M_g1, R_g1, p_g1, g_g1⟩)]) (keepOf [(pt1, (⟨[(0, .asis), (1, .asis), (5, .asis)], [], []⟩ : Keep))]) (fun _ => [])
noncomputable abbrev E_g2 (k : Nat) (x : In_g2) : Option Out_g2 := evFn (X_g2 g_g1 p_g1) Tryz.f69 R_g2 M_g2 k x
def h0_g2 (x0 : Dm (.imm L_SpcSpec)) (x1 : Dm (.imm I)) (h0 : Dn I) (h1 : Dn I) : St := mkS [(0, (AV.val L_SpcSpec x0)), (1, (AV.val I h0)), (5, (AV.val I h1))] []
noncomputable def r_g2 (x : In_g2) (k : Nat) (p : List Bool) (s : St) : Option Out_g2 := rounds (X_g2 g_g1 p_g1) Tryz.f69 R_g2 M_g2 x k p s
variable {g_g1 p_g1}
theorem ev_g2 (k : Nat) (x0 : Dm (.imm L_SpcSpec)) (x1 : Dm (.imm I)) : E_g2 g_g1 p_g1 k (x0, x1, ()) =
  (r_g2 g_g1 p_g1 (x0, x1, ()) k pt1 (h0_g2 x0 x1 x1 (0 : Int))) := by kernel_rfl
theorem rd0_g2 (k : Nat) (x0 : Dm (.imm L_SpcSpec)) (x1 : Dm (.imm I)) (h0 : Dn I) (h1 : Dn I) : r_g2 g_g1 p_g1 (x0, x1, ()) (k + 1) pt1 (h0_g2 x0 x1 h0 h1) =
  (bif (decide (h1 < (List.length x0 : Int))) then (bif (bif (decide ((0 : Int) <= h1)) then (decide (h1 < (List.length x0 : Int))) else false) then (cl (p_g1 ((rdL (e := S_SpcSpec) x0 h1).1, (h0, ()))) (g_g1 ((rdL (e := S_SpcSpec) x0 h1).1, (h0, ()))) fun y0 => (bif (decide (y0.1 < (0 : Int))) then (some ((-1 : Int), ())) else (bif (bif (decide ((0 : Int) <= h1)) then (decide (h1 < (List.length x0 : Int))) else false) then (bif (bif (decide ((rdL (e := S_SpcSpec) x0 h1).2 = y0.1)) then false else true) then (some ((-1 : Int), ())) else (r_g2 g_g1 p_g1 (x0, x1, ()) k pt1 (h0_g2 x0 x1 (w64 (y0.1 + (1 : Int))) (w64 (h1 + (1 : Int)))))) else none))) else none) else (some (h0, ()))) := by kernel_rfl
theorem S_g2 (h_g1 : C_g1 p_g1 g_g1) {pre : In_g2 -> Bool} {fn : In_g2 -> Out_g2} (hev : ∀ x, pre x = true -> ∃ k, E_g2 g_g1 p_g1 k x = some (fn x)) : C_g2 pre fn := sound tysOk mixed (fn := Tryz.f69) rfl rfl rfl (.cons h_g1 .nil) _ hev
end
/-! g3: lheldDecDecS -/
abbrev M_g3 : List Vm.Mode := [.imm L_DecDec, .imm I]
abbrev R_g3 : List (RK × Sh) := [(.imm, I)]
abbrev In_g3 : Type := (insSh M_g3).den
abbrev Out_g3 : Type := (outSh R_g3 M_g3).den
abbrev C_g3 (pre : In_g3 -> Bool) (fn : In_g3 -> Out_g3) : Prop := Sound Tryz.prog 179 ⟨M_g3, R_g3, pre, fn⟩
abbrev X_g3 : Ctx := ctx tys 31 (conOf []) (keepOf [(pt1, (⟨[(0, .asis), (1, .asis), (5, .asis)], [], []⟩ : Keep))]) (fun _ => [])
noncomputable abbrev E_g3 (k : Nat) (x : In_g3) : Option Out_g3 := evFn X_g3 Tryz.f179 R_g3 M_g3 k x
def h0_g3 (x0 : Dm (.imm L_DecDec)) (x1 : Dm (.imm I)) (h0 : Dn I) (h1 : Dn I) : St := mkS [(0, (AV.val L_DecDec x0)), (1, (AV.val I h0)), (5, (AV.val I h1))] []
noncomputable def r_g3 (x : In_g3) (k : Nat) (p : List Bool) (s : St) : Option Out_g3 := rounds X_g3 Tryz.f179 R_g3 M_g3 x k p s
theorem ev_g3 (k : Nat) (x0 : Dm (.imm L_DecDec)) (x1 : Dm (.imm I)) : E_g3 k (x0, x1, ()) =
  (r_g3  (x0, x1, ()) k pt1 (h0_g3 x0 x1 x1 (0 : Int))) := by kernel_rfl
theorem rd0_g3 (k : Nat) (x0 : Dm (.imm L_DecDec)) (x1 : Dm (.imm I)) (h0 : Dn I) (h1 : Dn I) : r_g3  (x0, x1, ()) (k + 1) pt1 (h0_g3 x0 x1 h0 h1) =
  (bif (decide (h1 < (List.length x0 : Int))) then (bif (bif (decide ((0 : Int) <= h1)) then (decide (h1 < (List.length x0 : Int))) else false) then (bif (bif (decide ((rdL (e := S_DecDec) x0 h1).1 = h0)) then false else true) then (some ((-1 : Int), ())) else (bif (bif (decide ((0 : Int) <= h1)) then (decide (h1 < (List.length x0 : Int))) else false) then (bif (bif (decide ((rdL (e := S_DecDec) x0 h1).2 = (w64 (h0 + (1 : Int))))) then false else true) then (some ((-1 : Int), ())) else (r_g3  (x0, x1, ()) k pt1 (h0_g3 x0 x1 (w64 ((w64 (h0 + (1 : Int))) + (1 : Int))) (w64 (h1 + (1 : Int)))))) else none)) else none) else (some (h0, ()))) := by kernel_rfl
theorem S_g3  {pre : In_g3 -> Bool} {fn : In_g3 -> Out_g3} (hev : ∀ x, pre x = true -> ∃ k, E_g3 k x = some (fn x)) : C_g3 pre fn := sound tysOk mixed (fn := Tryz.f179) rfl rfl rfl ConsOk.nil _ hev
/-! g4: lheldTstTestS -/
abbrev M_g4 : List Vm.Mode := [.imm L_TstTest, .imm I]
abbrev R_g4 : List (RK × Sh) := [(.imm, I)]
abbrev In_g4 : Type := (insSh M_g4).den
abbrev Out_g4 : Type := (outSh R_g4 M_g4).den
abbrev C_g4 (pre : In_g4 -> Bool) (fn : In_g4 -> Out_g4) : Prop := Sound Tryz.prog 125 ⟨M_g4, R_g4, pre, fn⟩
section
variable (g_g3 : In_g3 -> Out_g3) (p_g3 : In_g3 -> Bool)
abbrev X_g4 : Ctx := ctx tys 124 (conOf [(179, ⟨M_g3, R_g3, p_g3, g_g3⟩)]) (keepOf [(pt1, (⟨[(0, .asis), (1, .asis), (5, .asis)], [], []⟩ : Keep))]) (fun _ => [])
noncomputable abbrev E_g4 (k : Nat) (x : In_g4) : Option Out_g4 := evFn (X_g4 g_g3 p_g3) Tryz.f125 R_g4 M_g4 k x
def h0_g4 (x0 : Dm (.imm L_TstTest)) (x1 : Dm (.imm I)) (h0 : Dn I) (h1 : Dn I) : St := mkS [(0, (AV.val L_TstTest x0)), (1, (AV.val I h0)), (5, (AV.val I h1))] []
noncomputable def r_g4 (x : In_g4) (k : Nat) (p : List Bool) (s : St) : Option Out_g4 := rounds (X_g4 g_g3 p_g3) Tryz.f125 R_g4 M_g4 x k p s
variable {g_g3 p_g3}
theorem ev_g4 (k : Nat) (x0 : Dm (.imm L_TstTest)) (x1 : Dm (.imm I)) : E_g4 g_g3 p_g3 k (x0, x1, ()) =
  (r_g4 g_g3 p_g3 (x0, x1, ()) k pt1 (h0_g4 x0 x1 x1 (0 : Int))) := by kernel_rfl
theorem rd0_g4 (k : Nat) (x0 : Dm (.imm L_TstTest)) (x1 : Dm (.imm I)) (h0 : Dn I) (h1 : Dn I) : r_g4 g_g3 p_g3 (x0, x1, ()) (k + 1) pt1 (h0_g4 x0 x1 h0 h1) =
  (lt (rdL (e := S_TstTest) x0 h1) fun s9 => (lt (w64 (h0 + (1 : Int))) fun s0 => (lt (w64 (s0 + (1 : Int))) fun s1 => (lt (w64 (s1 + (1 : Int))) fun s2 => (lt (w64 (s2 + (1 : Int))) fun s3 => (lt (w64 (s3 + (1 : Int))) fun s4 => (lt (w64 (s4 + (1 : Int))) fun s5 => (lt (w64 (s5 + (1 : Int))) fun s6 => (lt (w64 (s6 + (1 : Int))) fun s7 => (lt (w64 (s7 + (1 : Int))) fun s8 => (bif (decide (h1 < (List.length x0 : Int))) then (bif (bif (decide ((0 : Int) <= h1)) then (decide (h1 < (List.length x0 : Int))) else false) then (bif (bif (decide (s9.1.1 = h0)) then false else true) then (some ((-1 : Int), ())) else (bif (bif (decide ((0 : Int) <= h1)) then (decide (h1 < (List.length x0 : Int))) else false) then (bif (bif (decide (s9.1.2.1.1 = s0)) then false else true) then (some ((-1 : Int), ())) else (bif (bif (decide ((0 : Int) <= h1)) then (decide (h1 < (List.length x0 : Int))) else false) then (bif (bif (decide (s9.1.2.1.2 = s1)) then false else true) then (some ((-1 : Int), ())) else (bif (bif (decide ((0 : Int) <= h1)) then (decide (h1 < (List.length x0 : Int))) else false) then (bif (bif (decide (s9.1.2.2.1.1 = s2)) then false else true) then (some ((-1 : Int), ())) else (bif (bif (decide ((0 : Int) <= h1)) then (decide (h1 < (List.length x0 : Int))) else false) then (bif (bif (decide (s9.1.2.2.1.2 = s3)) then false else true) then (some ((-1 : Int), ())) else (bif (bif (decide ((0 : Int) <= h1)) then (decide (h1 < (List.length x0 : Int))) else false) then (bif (bif (decide (s9.1.2.2.2 = s4)) then false else true) then (some ((-1 : Int), ())) else (bif (bif (decide ((0 : Int) <= h1)) then (decide (h1 < (List.length x0 : Int))) else false) then (bif (bif (decide (s9.2.1 = s5)) then false else true) then (some ((-1 : Int), ())) else (bif (bif (decide ((0 : Int) <= h1)) then (decide (h1 < (List.length x0 : Int))) else false) then (bif (bif (decide (s9.2.2.1.1 = s6)) then false else true) then (some ((-1 : Int), ())) else (bif (bif (decide ((0 : Int) <= h1)) then (decide (h1 < (List.length x0 : Int))) else false) then (bif (bif (decide (s9.2.2.1.2 = s7)) then false else true) then (some ((-1 : Int), ())) else (bif (bif (decide ((0 : Int) <= h1)) then (decide (h1 < (List.length x0 : Int))) else false) then (bif (bif (decide (s9.2.2.2.1 = s8)) then false else true) then (some ((-1 : Int), ())) else (bif (bif (decide ((0 : Int) <= h1)) then (decide (h1 < (List.length x0 : Int))) else false) then (cl (p_g3 (s9.2.2.2.2, ((w64 (s8 + (1 : Int))), ()))) (g_g3 (s9.2.2.2.2, ((w64 (s8 + (1 : Int))), ()))) fun y0 => (bif (decide (y0.1 < (0 : Int))) then (some ((-1 : Int), ())) else (r_g4 g_g3 p_g3 (x0, x1, ()) k pt1 (h0_g4 x0 x1 (y0.1) (w64 (h1 + (1 : Int))))))) else none)) else none)) else none)) else none)) else none)) else none)) else none)) else none)) else none)) else none)) else none) else (some (h0, ()))))))))))))) := by kernel_rfl
theorem S_g4 (h_g3 : C_g3 p_g3 g_g3) {pre : In_g4 -> Bool} {fn : In_g4 -> Out_g4} (hev : ∀ x, pre x = true -> ∃ k, E_g4 g_g3 p_g3 k x = some (fn x)) : C_g4 pre fn := sound tysOk mixed (fn := Tryz.f125) rfl rfl rfl (.cons h_g3 .nil) _ hev
end
/-! g5: lheldBatSigS -/
abbrev M_g5 : List Vm.Mode := [.imm L_BatSig, .imm I]
abbrev R_g5 : List (RK × Sh) := [(.imm, I)]
abbrev In_g5 : Type := (insSh M_g5).den
abbrev Out_g5 : Type := (outSh R_g5 M_g5).den
abbrev C_g5 (pre : In_g5 -> Bool) (fn : In_g5 -> Out_g5) : Prop := Sound Tryz.prog 126 ⟨M_g5, R_g5, pre, fn⟩
abbrev X_g5 : Ctx := ctx tys 40 (conOf []) (keepOf [(pt1, (⟨[(0, .asis), (1, .asis), (5, .asis)], [], []⟩ : Keep))]) (fun _ => [])
noncomputable abbrev E_g5 (k : Nat) (x : In_g5) : Option Out_g5 := evFn X_g5 Tryz.f126 R_g5 M_g5 k x
def h0_g5 (x0 : Dm (.imm L_BatSig)) (x1 : Dm (.imm I)) (h0 : Dn I) (h1 : Dn I) : St := mkS [(0, (AV.val L_BatSig x0)), (1, (AV.val I h0)), (5, (AV.val I h1))] []
noncomputable def r_g5 (x : In_g5) (k : Nat) (p : List Bool) (s : St) : Option Out_g5 := rounds X_g5 Tryz.f126 R_g5 M_g5 x k p s
theorem ev_g5 (k : Nat) (x0 : Dm (.imm L_BatSig)) (x1 : Dm (.imm I)) : E_g5 k (x0, x1, ()) =
  (r_g5  (x0, x1, ()) k pt1 (h0_g5 x0 x1 x1 (0 : Int))) := by kernel_rfl
theorem rd0_g5 (k : Nat) (x0 : Dm (.imm L_BatSig)) (x1 : Dm (.imm I)) (h0 : Dn I) (h1 : Dn I) : r_g5  (x0, x1, ()) (k + 1) pt1 (h0_g5 x0 x1 h0 h1) =
  (bif (decide (h1 < (List.length x0 : Int))) then (bif (bif (decide ((0 : Int) <= h1)) then (decide (h1 < (List.length x0 : Int))) else false) then (bif (bif (decide ((rdL (e := S_DayDay) x0 h1).1 = h0)) then false else true) then (some ((-1 : Int), ())) else (bif (bif (decide ((0 : Int) <= h1)) then (decide (h1 < (List.length x0 : Int))) else false) then (bif (bif (decide ((rdL (e := S_DayDay) x0 h1).2.1 = (w64 (h0 + (1 : Int))))) then false else true) then (some ((-1 : Int), ())) else (bif (bif (decide ((0 : Int) <= h1)) then (decide (h1 < (List.length x0 : Int))) else false) then (bif (bif (decide ((rdL (e := S_DayDay) x0 h1).2.2 = (w64 ((w64 (h0 + (1 : Int))) + (1 : Int))))) then false else true) then (some ((-1 : Int), ())) else (r_g5  (x0, x1, ()) k pt1 (h0_g5 x0 x1 (w64 ((w64 ((w64 (h0 + (1 : Int))) + (1 : Int))) + (1 : Int))) (w64 (h1 + (1 : Int)))))) else none)) else none)) else none) else (some (h0, ()))) := by kernel_rfl
theorem S_g5  {pre : In_g5 -> Bool} {fn : In_g5 -> Out_g5} (hev : ∀ x, pre x = true -> ∃ k, E_g5 k x = some (fn x)) : C_g5 pre fn := sound tysOk mixed (fn := Tryz.f126) rfl rfl rfl ConsOk.nil _ hev
/-! g6: lheldBoolS -/
abbrev M_g6 : List Vm.Mode := [.imm L_bool, .imm I]
abbrev R_g6 : List (RK × Sh) := [(.imm, I)]
abbrev In_g6 : Type := (insSh M_g6).den
abbrev Out_g6 : Type := (outSh R_g6 M_g6).den
abbrev C_g6 (pre : In_g6 -> Bool) (fn : In_g6 -> Out_g6) : Prop := Sound Tryz.prog 127 ⟨M_g6, R_g6, pre, fn⟩
abbrev X_g6 : Ctx := ctx tys 23 (conOf []) (keepOf [(pt1, (⟨[(0, .asis), (1, .asis), (5, .asis)], [], []⟩ : Keep))]) (fun _ => [])
noncomputable abbrev E_g6 (k : Nat) (x : In_g6) : Option Out_g6 := evFn X_g6 Tryz.f127 R_g6 M_g6 k x
def h0_g6 (x0 : Dm (.imm L_bool)) (x1 : Dm (.imm I)) (h0 : Dn I) (h1 : Dn I) : St := mkS [(0, (AV.val L_bool x0)), (1, (AV.val I h0)), (5, (AV.val I h1))] []
noncomputable def r_g6 (x : In_g6) (k : Nat) (p : List Bool) (s : St) : Option Out_g6 := rounds X_g6 Tryz.f127 R_g6 M_g6 x k p s
theorem ev_g6 (k : Nat) (x0 : Dm (.imm L_bool)) (x1 : Dm (.imm I)) : E_g6 k (x0, x1, ()) =
  (r_g6  (x0, x1, ()) k pt1 (h0_g6 x0 x1 x1 (0 : Int))) := by kernel_rfl
theorem rd0_g6 (k : Nat) (x0 : Dm (.imm L_bool)) (x1 : Dm (.imm I)) (h0 : Dn I) (h1 : Dn I) : r_g6  (x0, x1, ()) (k + 1) pt1 (h0_g6 x0 x1 h0 h1) =
  (bif (decide (h1 < (List.length x0 : Int))) then (bif (bif (decide ((0 : Int) <= h1)) then (decide (h1 < (List.length x0 : Int))) else false) then (bif (bif (decide ((3 : Int) = (0 : Int))) then false else true) then (bif (bif ((rdL (e := Sh.bool) x0 h1) == (decide ((Int.tmod h0 (3 : Int)) = (0 : Int)))) then false else true) then (some ((-1 : Int), ())) else (r_g6  (x0, x1, ()) k pt1 (h0_g6 x0 x1 (w64 (h0 + (1 : Int))) (w64 (h1 + (1 : Int)))))) else none) else none) else (some (h0, ()))) := by kernel_rfl
theorem S_g6  {pre : In_g6 -> Bool} {fn : In_g6 -> Out_g6} (hev : ∀ x, pre x = true -> ∃ k, E_g6 k x = some (fn x)) : C_g6 pre fn := sound tysOk mixed (fn := Tryz.f127) rfl rfl rfl ConsOk.nil _ hev
/-! g7: lheldBatBatchS -/
abbrev M_g7 : List Vm.Mode := [.imm L_BatBatch, .imm I]
abbrev R_g7 : List (RK × Sh) := [(.imm, I)]
abbrev In_g7 : Type := (insSh M_g7).den
abbrev Out_g7 : Type := (outSh R_g7 M_g7).den
abbrev C_g7 (pre : In_g7 -> Bool) (fn : In_g7 -> Out_g7) : Prop := Sound Tryz.prog 70 ⟨M_g7, R_g7, pre, fn⟩
section
variable (g_g4 : In_g4 -> Out_g4) (p_g4 : In_g4 -> Bool) (g_g5 : In_g5 -> Out_g5) (p_g5 : In_g5 -> Bool) (g_g6 : In_g6 -> Out_g6) (p_g6 : In_g6 -> Bool)
abbrev X_g7 : Ctx := ctx tys 67 (conOf [(125, ⟨M_g4, R_g4, p_g4, g_g4⟩), (126, ⟨M_g5, R_g5, p_g5, g_g5⟩), (127, ⟨M_g6, R_g6, p_g6, g_g6⟩)]) (keepOf [(pt1, (⟨[(0, .asis), (1, .asis), (5, .asis)], [], []⟩ : Keep))]) (fun _ => [])
noncomputable abbrev E_g7 (k : Nat) (x : In_g7) : Option Out_g7 := evFn (X_g7 g_g4 p_g4 g_g5 p_g5 g_g6 p_g6) Tryz.f70 R_g7 M_g7 k x
def h0_g7 (x0 : Dm (.imm L_BatBatch)) (x1 : Dm (.imm I)) (h0 : Dn I) (h1 : Dn I) : St := mkS [(0, (AV.val L_BatBatch x0)), (1, (AV.val I h0)), (5, (AV.val I h1))] []
noncomputable def r_g7 (x : In_g7) (k : Nat) (p : List Bool) (s : St) : Option Out_g7 := rounds (X_g7 g_g4 p_g4 g_g5 p_g5 g_g6 p_g6) Tryz.f70 R_g7 M_g7 x k p s
variable {g_g4 p_g4 g_g5 p_g5 g_g6 p_g6}
theorem ev_g7 (k : Nat) (x0 : Dm (.imm L_BatBatch)) (x1 : Dm (.imm I)) : E_g7 g_g4 p_g4 g_g5 p_g5 g_g6 p_g6 k (x0, x1, ()) =
  (r_g7 g_g4 p_g4 g_g5 p_g5 g_g6 p_g6 (x0, x1, ()) k pt1 (h0_g7 x0 x1 x1 (0 : Int))) := by kernel_rfl
theorem rd0_g7 (k : Nat) (x0 : Dm (.imm L_BatBatch)) (x1 : Dm (.imm I)) (h0 : Dn I) (h1 : Dn I) : r_g7 g_g4 p_g4 g_g5 p_g5 g_g6 p_g6 (x0, x1, ()) (k + 1) pt1 (h0_g7 x0 x1 h0 h1) =
  (lt (rdL (e := S_BatBatch) x0 h1) fun s1 => (lt (w64 (h0 + (1 : Int))) fun s0 => (bif (decide (h1 < (List.length x0 : Int))) then (bif (bif (decide ((0 : Int) <= h1)) then (decide (h1 < (List.length x0 : Int))) else false) then (bif (bif (decide (s1.1 = h0)) then false else true) then (some ((-1 : Int), ())) else (bif (bif (decide ((0 : Int) <= h1)) then (decide (h1 < (List.length x0 : Int))) else false) then (bif (bif (decide (s1.2.1 = s0)) then false else true) then (some ((-1 : Int), ())) else (bif (bif (decide ((0 : Int) <= h1)) then (decide (h1 < (List.length x0 : Int))) else false) then (cl (p_g4 (s1.2.2.1, ((w64 (s0 + (1 : Int))), ()))) (g_g4 (s1.2.2.1, ((w64 (s0 + (1 : Int))), ()))) fun y0 => (bif (decide (y0.1 < (0 : Int))) then (some ((-1 : Int), ())) else (bif (bif (decide ((0 : Int) <= h1)) then (decide (h1 < (List.length x0 : Int))) else false) then (bif (bif (decide (s1.2.2.2.1 = y0.1)) then false else true) then (some ((-1 : Int), ())) else (bif (bif (decide ((0 : Int) <= h1)) then (decide (h1 < (List.length x0 : Int))) else false) then (cl (p_g5 (s1.2.2.2.2.1, ((w64 (y0.1 + (1 : Int))), ()))) (g_g5 (s1.2.2.2.2.1, ((w64 (y0.1 + (1 : Int))), ()))) fun y1 => (bif (decide (y1.1 < (0 : Int))) then (some ((-1 : Int), ())) else (bif (bif (decide ((0 : Int) <= h1)) then (decide (h1 < (List.length x0 : Int))) else false) then (cl (p_g6 (s1.2.2.2.2.2, (y1.1, ()))) (g_g6 (s1.2.2.2.2.2, (y1.1, ()))) fun y2 => (bif (decide (y2.1 < (0 : Int))) then (some ((-1 : Int), ())) else (r_g7 g_g4 p_g4 g_g5 p_g5 g_g6 p_g6 (x0, x1, ()) k pt1 (h0_g7 x0 x1 (y2.1) (w64 (h1 + (1 : Int))))))) else none))) else none)) else none))) else none)) else none)) else none) else (some (h0, ()))))) := by kernel_rfl
theorem S_g7 (h_g4 : C_g4 p_g4 g_g4) (h_g5 : C_g5 p_g5 g_g5) (h_g6 : C_g6 p_g6 g_g6) {pre : In_g7 -> Bool} {fn : In_g7 -> Out_g7} (hev : ∀ x, pre x = true -> ∃ k, E_g7 g_g4 p_g4 g_g5 p_g5 g_g6 p_g6 k x = some (fn x)) : C_g7 pre fn := sound tysOk mixed (fn := Tryz.f70) rfl rfl rfl (.cons h_g4 (.cons h_g5 (.cons h_g6 .nil))) _ hev
end
/-! g8: lheldHouHouse -/
abbrev M_g8 : List Vm.Mode := [.imm S_HouHouse, .imm I]
abbrev R_g8 : List (RK × Sh) := [(.imm, I)]
abbrev In_g8 : Type := (insSh M_g8).den
abbrev Out_g8 : Type := (outSh R_g8 M_g8).den
abbrev C_g8 (pre : In_g8 -> Bool) (fn : In_g8 -> Out_g8) : Prop := Sound Tryz.prog 21 ⟨M_g8, R_g8, pre, fn⟩
section
variable (g_g0 : In_g0 -> Out_g0) (p_g0 : In_g0 -> Bool) (g_g2 : In_g2 -> Out_g2) (p_g2 : In_g2 -> Bool) (g_g7 : In_g7 -> Out_g7) (p_g7 : In_g7 -> Bool)
abbrev X_g8 : Ctx := ctx tys 24 (conOf [(68, ⟨M_g0, R_g0, p_g0, g_g0⟩), (69, ⟨M_g2, R_g2, p_g2, g_g2⟩), (70, ⟨M_g7, R_g7, p_g7, g_g7⟩)]) (keepOf []) (fun _ => [])
noncomputable abbrev E_g8 (k : Nat) (x : In_g8) : Option Out_g8 := evFn (X_g8 g_g0 p_g0 g_g2 p_g2 g_g7 p_g7) Tryz.f21 R_g8 M_g8 k x
variable {g_g0 p_g0 g_g2 p_g2 g_g7 p_g7}
theorem ev_g8 (k : Nat) (x0 : Dm (.imm S_HouHouse)) (x1 : Dm (.imm I)) : E_g8 g_g0 p_g0 g_g2 p_g2 g_g7 p_g7 k (x0, x1, ()) =
  (cl (p_g0 (x0.1, (x1, ()))) (g_g0 (x0.1, (x1, ()))) fun y0 => (bif (decide (y0.1 < (0 : Int))) then (some ((-1 : Int), ())) else (cl (p_g2 (x0.2.1, (y0.1, ()))) (g_g2 (x0.2.1, (y0.1, ()))) fun y1 => (bif (decide (y1.1 < (0 : Int))) then (some ((-1 : Int), ())) else (cl (p_g7 (x0.2.2, (y1.1, ()))) (g_g7 (x0.2.2, (y1.1, ()))) fun y2 => (bif (decide (y2.1 < (0 : Int))) then (some ((-1 : Int), ())) else (some (y2.1, ())))))))) := by kernel_rfl
theorem S_g8 (h_g0 : C_g0 p_g0 g_g0) (h_g2 : C_g2 p_g2 g_g2) (h_g7 : C_g7 p_g7 g_g7) {pre : In_g8 -> Bool} {fn : In_g8 -> Out_g8} (hev : ∀ x, pre x = true -> ∃ k, E_g8 g_g0 p_g0 g_g2 p_g2 g_g7 p_g7 k x = some (fn x)) : C_g8 pre fn := sound tysOk mixed (fn := Tryz.f21) rfl rfl rfl (.cons h_g0 (.cons h_g2 (.cons h_g7 .nil))) _ hev
end
/-! lFnExactHouDo -/
abbrev M_lFnExactHouDo : List Vm.Mode := [.imm S_lHouHouse, .imm S_lReqReq]
abbrev R_lFnExactHouDo : List (RK × Sh) := [(.own, .bool)]
abbrev In_lFnExactHouDo : Type := (insSh M_lFnExactHouDo).den
abbrev Out_lFnExactHouDo : Type := (outSh R_lFnExactHouDo M_lFnExactHouDo).den
abbrev C_lFnExactHouDo (pre : In_lFnExactHouDo -> Bool) (fn : In_lFnExactHouDo -> Out_lFnExactHouDo) : Prop := Sound Tryz.prog 4 ⟨M_lFnExactHouDo, R_lFnExactHouDo, pre, fn⟩
section
variable (g_ab : In_ab -> Out_ab) (p_ab : In_ab -> Bool) (g_ac : In_ac -> Out_ac) (p_ac : In_ac -> Bool) (g_ar : In_ar -> Out_ar) (p_ar : In_ar -> Bool) (g_as : In_as -> Out_as) (p_as : In_as -> Bool) (g_c7 : In_c7 -> Out_c7) (p_c7 : In_c7 -> Bool) (g_f9 : In_f9 -> Out_f9) (p_f9 : In_f9 -> Bool) (g_fo : In_fo -> Out_fo) (p_fo : In_fo -> Bool) (g_fp : In_fp -> Out_fp) (p_fp : In_fp -> Bool) (g_fy : In_fy -> Out_fy) (p_fy : In_fy -> Bool) (g_fz : In_fz -> Out_fz) (p_fz : In_fz -> Bool) (g_g8 : In_g8 -> Out_g8) (p_g8 : In_g8 -> Bool)
abbrev X_lFnExactHouDo : Ctx := ctx tys 119 (conOf [(13, ⟨M_ab, R_ab, p_ab, g_ab⟩), (14, ⟨M_ac, R_ac, p_ac, g_ac⟩), (15, ⟨M_ar, R_ar, p_ar, g_ar⟩), (16, ⟨M_as, R_as, p_as, g_as⟩), (7, ⟨M_c7, R_c7, p_c7, g_c7⟩), (6, ⟨M_f9, R_f9, p_f9, g_f9⟩), (17, ⟨M_fo, R_fo, p_fo, g_fo⟩), (18, ⟨M_fp, R_fp, p_fp, g_fp⟩), (19, ⟨M_fy, R_fy, p_fy, g_fy⟩), (20, ⟨M_fz, R_fz, p_fz, g_fz⟩), (21, ⟨M_g8, R_g8, p_g8, g_g8⟩)]) (keepOf []) (fun _ => [])
noncomputable abbrev E_lFnExactHouDo (k : Nat) (x : In_lFnExactHouDo) : Option Out_lFnExactHouDo := evFn (X_lFnExactHouDo g_ab p_ab g_ac p_ac g_ar p_ar g_as p_as g_c7 p_c7 g_f9 p_f9 g_fo p_fo g_fp p_fp g_fy p_fy g_fz p_fz g_g8 p_g8) Tryz.f4 R_lFnExactHouDo M_lFnExactHouDo k x
variable {g_ab p_ab g_ac p_ac g_ar p_ar g_as p_as g_c7 p_c7 g_f9 p_f9 g_fo p_fo g_fp p_fp g_fy p_fy g_fz p_fz g_g8 p_g8}
theorem ev_lFnExactHouDo (k : Nat) (x0 : Dm (.imm S_lHouHouse)) (x1 : Dm (.imm S_lReqReq)) : E_lFnExactHouDo g_ab p_ab g_ac p_ac g_ar p_ar g_as p_as g_c7 p_c7 g_f9 p_f9 g_fo p_fo g_fp p_fp g_fy p_fy g_fz p_fz g_g8 p_g8 k (x0, x1, ()) =
  (cl (p_ab (x0, ((1048576 : Int), ()))) (g_ab (x0, ((1048576 : Int), ()))) fun y0 => (bif (decide (y0.1 < (0 : Int))) then (some (true, ())) else (cl (p_ac (x1, (y0.1, ()))) (g_ac (x1, (y0.1, ()))) fun y1 => (bif (decide (y1.1 < (0 : Int))) then (some (true, ())) else (cl (p_ar (x0, ())) (g_ar (x0, ())) fun y2 => (cl (p_as (x1, ())) (g_as (x1, ())) fun y3 => (cl (p_c7 (y2.1, (y3.1, ()))) (g_c7 (y2.1, (y3.1, ()))) fun y4 => (bif (p_ar (x0, ())) then (bif (p_as (x1, ())) then (cl (p_f9 (y2.1, (y3.1, ()))) (g_f9 (y2.1, (y3.1, ()))) fun y5 => (cl (p_fo (y5.1, (y4.1, ()))) (g_fo (y5.1, (y4.1, ()))) fun y6 => (bif (bif y6.1 then false else true) then (some (false, ())) else (bif (bif (decide (y5.2.1 = y4.2.1)) then false else true) then (some (false, ())) else (bif (p_ar (x0, ())) then (cl (p_fo (y2.1, (y2.1, ()))) (g_fo (y2.1, (y2.1, ()))) fun y7 => (bif (bif y7.1 then false else true) then (some (false, ())) else (bif (p_as (x1, ())) then (cl (p_fp (y3.1, (y3.1, ()))) (g_fp (y3.1, (y3.1, ()))) fun y8 => (bif (bif y8.1 then false else true) then (some (false, ())) else (cl (p_fy (y2.1, ((1 : Int), ()))) (g_fy (y2.1, ((1 : Int), ()))) fun y9 => (cl (p_fz (y3.1, (y9.1, ()))) (g_fz (y3.1, (y9.1, ()))) fun y10 => (bif (decide (y10.1 < (0 : Int))) then (some (false, ())) else (bif (p_fo (y5.1, (y4.1, ()))) then (bif (bif y6.1 then false else true) then (some (false, ())) else (bif (bif (decide (y5.2.1 = y4.2.1)) then false else true) then (some (false, ())) else (cl (p_fy (y5.1, ((1 : Int), ()))) (g_fy (y5.1, ((1 : Int), ()))) fun y11 => (cl (p_g8 (y11.2.1, ((1 : Int), ()))) (g_g8 (y11.2.1, ((1 : Int), ()))) fun y12 => (bif (decide (y12.1 < (0 : Int))) then (some (false, ())) else (bif (bif (decide (y12.1 = y11.1)) then false else true) then (some (false, ())) else (bif (p_ar (x0, ())) then (bif (p_as (x1, ())) then (bif (p_f9 (y2.1, (y3.1, ()))) then (bif (p_fo (y5.1, (y4.1, ()))) then (bif (bif y6.1 then false else true) then (some (false, ())) else (bif (bif (decide (y5.2.1 = y4.2.1)) then false else true) then (some (false, ())) else (bif (p_g8 (y11.2.1, ((1 : Int), ()))) then (bif (decide (y12.1 < (0 : Int))) then (some (false, ())) else (bif (bif (decide (y12.1 = y11.1)) then false else true) then (some (false, ())) else (some (true, ())))) else none))) else none) else none) else none) else none))))))) else none)))))) else none))) else none))))) else none) else none)))))))) := by kernel_rfl
theorem S_lFnExactHouDo (h_ab : C_ab p_ab g_ab) (h_ac : C_ac p_ac g_ac) (h_ar : C_ar p_ar g_ar) (h_as : C_as p_as g_as) (h_c7 : C_c7 p_c7 g_c7) (h_f9 : C_f9 p_f9 g_f9) (h_fo : C_fo p_fo g_fo) (h_fp : C_fp p_fp g_fp) (h_fy : C_fy p_fy g_fy) (h_fz : C_fz p_fz g_fz) (h_g8 : C_g8 p_g8 g_g8) {pre : In_lFnExactHouDo -> Bool} {fn : In_lFnExactHouDo -> Out_lFnExactHouDo} (hev : ∀ x, pre x = true -> ∃ k, E_lFnExactHouDo g_ab p_ab g_ac p_ac g_ar p_ar g_as p_as g_c7 p_c7 g_f9 p_f9 g_fo p_fo g_fp p_fp g_fy p_fy g_fz p_fz g_g8 p_g8 k x = some (fn x)) : C_lFnExactHouDo pre fn := sound tysOk mixed (fn := Tryz.f4) rfl rfl rfl (.cons h_ab (.cons h_ac (.cons h_ar (.cons h_as (.cons h_c7 (.cons h_f9 (.cons h_fo (.cons h_fp (.cons h_fy (.cons h_fz (.cons h_g8 .nil))))))))))) _ hev
end
end Go.Proofs.YtjmohfahchamaaaGreat
