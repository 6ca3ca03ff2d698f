/- The functions of the seat, evaluated: equations, checked by the kernel. Made by a program. -/
import Derived.Test.YtddpemilmeijfaaGreatFnBatDevVmC
import Derived.Test.YtddpemilmeijfaaGreatProg
import Derived.KernelRfl
set_option linter.unusedVariables false
set_option maxRecDepth 100000
namespace Go.Proofs.YtddpemilmeijfaaGreat
open Go.Vm
abbrev Dm (m : Vm.Mode) : Type := m.inSh.den
abbrev Dn (S : Sh) : Type := S.den
def mkS (a : List (Nat × AV)) (b : List (Nat × Ob)) : St := .mk (updL (fun _ => .unk) a) (updL (fun _ => .none) b)
def pt0 : List Bool := [false, true, false, true, true]
def pt1 : List Bool := [false, true, false, true]
def pt2 : List Bool := [false, true, false, true, true, true]
def pt3 : List Bool := [false, true, false, false, true, false, false, true, false, true]
def pt4 : List Bool := [false, false, true, true]
def pt5 : List Bool := [false, true, true, true, false, false, true, false, false, true, false, true, true]
def pt6 : List Bool := [false, true, false, false, true, false, true, false, true, true, true]
def pt7 : List Bool := [false, true, true, true, false, false, true, true, false, false, true, false, true, true]
def pt8 : List Bool := [false, true, false, true, true, true, true]
abbrev I : Sh := (.int .i64)
abbrev U8 : Sh := (.int .u8)
abbrev L_str : Sh := (.sl 9 .str)
abbrev L_bool : Sh := (.sl 4 .bool)
abbrev L_u8 : Sh := (.sl 5 U8)
abbrev L_int : Sh := (.sl 3 I)
abbrev S_runtime_errorAddressString : Sh := (.pair .str (.int .u64))
abbrev L_Lint : Sh := (.sl 23 L_int)
abbrev S_DecDec : Sh := (.pair I I)
abbrev S_sl20Rd : Sh := (.pair L_u8 I)
abbrev L_DecDec : Sh := (.sl 29 S_DecDec)
abbrev S_manner : Sh := (.pair .str (.pair L_int .str))
abbrev S_BatSig : Sh := (.pair I S_DecDec)
abbrev L_manner : Sh := (.sl 104 S_manner)
abbrev L_BatSig : Sh := (.sl 58 S_BatSig)
abbrev S_runtime_boundsError : Sh := (.pair I (.pair I (.pair .bool U8)))
abbrev S_SpcTest : Sh := (.pair I (.pair S_DecDec (.pair S_DecDec I)))
abbrev L_SpcTest : Sh := (.sl 53 S_SpcTest)
abbrev S_SpcSpec : Sh := (.pair L_SpcTest I)
abbrev L_SpcSpec : Sh := (.sl 83 S_SpcSpec)
abbrev S_TstTest : Sh := (.pair S_SpcTest (.pair I (.pair S_DecDec (.pair I L_DecDec))))
abbrev L_TstTest : Sh := (.sl 56 S_TstTest)
abbrev S_ReqReq : Sh := (.pair I (.pair I (.pair I (.pair I (.pair I (.pair S_DecDec L_SpcTest))))))
abbrev S_AudLine : Sh := (.pair S_ReqReq I)
abbrev L_AudLine : Sh := (.sl 176 S_AudLine)
abbrev S_BatBatch : Sh := (.pair I (.pair I (.pair L_TstTest (.pair I (.pair L_BatSig L_bool)))))
abbrev L_BatBatch : Sh := (.sl 45 S_BatBatch)
abbrev S_HouHouse : Sh := (.pair L_int (.pair L_SpcSpec L_BatBatch))
abbrev S_DayDay : Sh := S_BatSig
def tys : List (Nat × Sh × Nat) := [(2, I, 0), (3, I, 0), (4, .bool, 0), (5, U8, 0), (6, U8, 0), (7, S_runtime_boundsError, 4), (8, S_runtime_boundsError, 4), (9, .str, 0), (10, .str, 0), (11, .str, 0), (12, (.int .u64), 0), (13, S_runtime_errorAddressString, 2), (14, S_runtime_errorAddressString, 2), (21, (.int .i32), 0), (22, L_u8, 0), (23, L_int, 0), (24, L_SpcSpec, 0), (25, L_BatBatch, 0), (26, S_HouHouse, 3), (27, S_HouHouse, 3), (28, S_DecDec, 2), (29, S_DecDec, 2), (30, L_SpcTest, 0), (31, S_ReqReq, 7), (32, S_ReqReq, 7), (41, L_TstTest, 0), (42, L_BatSig, 0), (43, L_bool, 0), (44, S_BatBatch, 6), (45, S_BatBatch, 6), (52, S_SpcTest, 4), (53, S_SpcTest, 4), (54, L_DecDec, 0), (55, S_TstTest, 5), (56, S_TstTest, 5), (57, S_BatSig, 3), (58, S_BatSig, 3), (82, S_SpcSpec, 2), (83, S_SpcSpec, 2), (87, L_AudLine, 0), (96, S_BatSig, 3), (97, S_BatSig, 3), (103, S_manner, 3), (104, S_manner, 3), (135, S_sl20Rd, 2), (136, S_sl20Rd, 2), (155, L_manner, 0), (173, L_Lint, 0), (175, S_AudLine, 2), (176, S_AudLine, 2), (192, (.int .u64), 0), (197, L_str, 0), (201, (.int .u32), 0), (210, U8, 0), (211, U8, 0), (214, (.int .i32), 0), (215, (.int .i32), 0)]
theorem tysOk : tyChk Tryz.prog (ctx tys 0 (fun _ => []) (fun _ => ⟨[], [], []⟩) fun _ => []) tys = true := by kernel_rfl
theorem mixed : Tryz.prog.follows .mixedOrders = true := by kernel_rfl
/-! a0: sl20Open -/
abbrev M_a0 : List Vm.Mode := [.imm L_u8]
abbrev R_a0 : List (RK × Sh) := [(.new, S_sl20Rd)]
abbrev In_a0 : Type := (insSh M_a0).den
abbrev Out_a0 : Type := (outSh R_a0 M_a0).den
abbrev C_a0 (pre : In_a0 -> Bool) (fn : In_a0 -> Out_a0) : Prop := Sound Tryz.prog 55 ⟨M_a0, R_a0, pre, fn⟩
abbrev X_a0 : Ctx := ctx tys 11 (conOf []) (keepOf []) (fun _ => [])
noncomputable abbrev E_a0 (k : Nat) (x : In_a0) : Option Out_a0 := evFn X_a0 Tryz.f55 R_a0 M_a0 k x
theorem ev_a0 (k : Nat) (x0 : Dm (.imm L_u8)) : E_a0 k (x0, ()) =
  (bif (decide ((2000 : Int) < (List.length x0 : Int))) then (bif (bif (decide ((0 : Int) <= (2000 : Int))) then (decide ((2000 : Int) <= (List.length x0 : Int))) else false) then (some (((takeI x0 (2000 : Int)), (0 : Int)), ())) else none) else (some ((x0, (0 : Int)), ()))) := by kernel_rfl
theorem S_a0  {pre : In_a0 -> Bool} {fn : In_a0 -> Out_a0} (hev : ∀ x, pre x = true -> ∃ k, E_a0 k x = some (fn x)) : C_a0 pre fn := sound tysOk mixed (fn := Tryz.f55) rfl rfl rfl ConsOk.nil _ hev
/-! a1: sl20Rd_pick -/
abbrev M_a1 : List Vm.Mode := [.pI S_sl20Rd, .imm I]
abbrev R_a1 : List (RK × Sh) := [(.imm, I)]
abbrev In_a1 : Type := (insSh M_a1).den
abbrev Out_a1 : Type := (outSh R_a1 M_a1).den
abbrev C_a1 (pre : In_a1 -> Bool) (fn : In_a1 -> Out_a1) : Prop := Sound Tryz.prog 58 ⟨M_a1, R_a1, pre, fn⟩
abbrev X_a1 : Ctx := ctx tys 99 (conOf []) (keepOf []) (fun _ => [])
noncomputable abbrev E_a1 (k : Nat) (x : In_a1) : Option Out_a1 := evFn X_a1 Tryz.f58 R_a1 M_a1 k x
theorem ev_a1 (k : Nat) (x0 : Dm (.pI S_sl20Rd)) (x1 : Dm (.imm I)) : E_a1 k (x0, x1, ()) =
  (bif (decide (x1 < (1 : Int))) then (some ((0 : Int), ((x0.1, (w64 (x0.2 + (1 : Int)))), ()))) else (bif (decide ((List.length x0.1 : Int) = (0 : Int))) then (some ((0 : Int), ((x0.1, (w64 (x0.2 + (1 : Int)))), ()))) else (bif (decide ((w64 ((w64 (x0.2 + (1 : Int))) - (1 : Int))) < (List.length x0.1 : Int))) then (bif (bif (decide ((0 : Int) <= (w64 ((w64 (x0.2 + (1 : Int))) - (1 : Int))))) then (decide ((w64 ((w64 (x0.2 + (1 : Int))) - (1 : Int))) < (List.length x0.1 : Int))) else false) then (bif (bif (decide (x1 = (0 : Int))) then false else true) then (some ((Int.tmod (w64 (rdL (e := U8) x0.1 (w64 ((w64 (x0.2 + (1 : Int))) - (1 : Int))))) x1), ((x0.1, (w64 (x0.2 + (1 : Int)))), ()))) else none) else none) else (bif (bif (decide ((List.length x0.1 : Int) = (0 : Int))) then false else true) then (bif (bif (decide ((0 : Int) <= (Int.tmod (w64 ((w64 (x0.2 + (1 : Int))) - (1 : Int))) (List.length x0.1 : Int)))) then (decide ((Int.tmod (w64 ((w64 (x0.2 + (1 : Int))) - (1 : Int))) (List.length x0.1 : Int)) < (List.length x0.1 : Int))) else false) then (bif (bif (decide ((List.length x0.1 : Int) = (0 : Int))) then false else true) then (bif (bif (decide ((0 : Int) <= (Int.tmod (w64 ((w64 ((w64 ((w64 (x0.2 + (1 : Int))) - (1 : Int))) * (7 : Int))) + (3 : Int))) (List.length x0.1 : Int)))) then (decide ((Int.tmod (w64 ((w64 ((w64 ((w64 (x0.2 + (1 : Int))) - (1 : Int))) * (7 : Int))) + (3 : Int))) (List.length x0.1 : Int)) < (List.length x0.1 : Int))) else false) then (bif (bif (decide ((List.length x0.1 : Int) = (0 : Int))) then false else true) then (bif (bif (decide ((64 : Int) = (0 : Int))) then false else true) then (bif (bif (decide (x1 = (0 : Int))) then false else true) then (some ((Int.tmod (bits BinOp.xor IntKind.i64 (w64 ((w64 ((w64 ((w64 ((w64 (rdL (e := U8) x0.1 (Int.tmod (w64 ((w64 (x0.2 + (1 : Int))) - (1 : Int))) (List.length x0.1 : Int)))) * (131 : Int))) + (w64 ((w64 (rdL (e := U8) x0.1 (Int.tmod (w64 ((w64 ((w64 ((w64 (x0.2 + (1 : Int))) - (1 : Int))) * (7 : Int))) + (3 : Int))) (List.length x0.1 : Int)))) * (1117 : Int))))) + (w64 ((w64 ((w64 (x0.2 + (1 : Int))) - (1 : Int))) * (29 : Int))))) + (w64 ((w64 (Int.tdiv (w64 ((w64 (x0.2 + (1 : Int))) - (1 : Int))) (List.length x0.1 : Int))) * (53 : Int))))) (w64 (Int.tdiv (w64 ((w64 ((w64 ((w64 ((w64 (rdL (e := U8) x0.1 (Int.tmod (w64 ((w64 (x0.2 + (1 : Int))) - (1 : Int))) (List.length x0.1 : Int)))) * (131 : Int))) + (w64 ((w64 (rdL (e := U8) x0.1 (Int.tmod (w64 ((w64 ((w64 ((w64 (x0.2 + (1 : Int))) - (1 : Int))) * (7 : Int))) + (3 : Int))) (List.length x0.1 : Int)))) * (1117 : Int))))) + (w64 ((w64 ((w64 (x0.2 + (1 : Int))) - (1 : Int))) * (29 : Int))))) + (w64 ((w64 (Int.tdiv (w64 ((w64 (x0.2 + (1 : Int))) - (1 : Int))) (List.length x0.1 : Int))) * (53 : Int))))) (64 : Int)))) x1), ((x0.1, (w64 (x0.2 + (1 : Int)))), ()))) else none) else none) else none) else none) else none) else none) else none)))) := by kernel_rfl
theorem S_a1  {pre : In_a1 -> Bool} {fn : In_a1 -> Out_a1} (hev : ∀ x, pre x = true -> ∃ k, E_a1 k x = some (fn x)) : C_a1 pre fn := sound tysOk mixed (fn := Tryz.f58) rfl rfl rfl ConsOk.nil _ hev
/-! a2: sl21Roles -/
abbrev M_a2 : List Vm.Mode := [.pI S_sl20Rd]
abbrev R_a2 : List (RK × Sh) := [(.imm, L_int)]
abbrev In_a2 : Type := (insSh M_a2).den
abbrev Out_a2 : Type := (outSh R_a2 M_a2).den
abbrev C_a2 (pre : In_a2 -> Bool) (fn : In_a2 -> Out_a2) : Prop := Sound Tryz.prog 118 ⟨M_a2, R_a2, pre, fn⟩
section
variable (g_a1 : In_a1 -> Out_a1) (p_a1 : In_a1 -> Bool)
abbrev X_a2 : Ctx := ctx tys 12 (conOf [(58, ⟨M_a1, R_a1, p_a1, g_a1⟩)]) (keepOf []) (fun _ => [])
noncomputable abbrev E_a2 (k : Nat) (x : In_a2) : Option Out_a2 := evFn (X_a2 g_a1 p_a1) Tryz.f118 R_a2 M_a2 k x
variable {g_a1 p_a1}
theorem ev_a2 (k : Nat) (x0 : Dm (.pI S_sl20Rd)) : E_a2 g_a1 p_a1 k (x0, ()) =
  (cl (p_a1 (x0, ((4 : Int), ()))) (g_a1 (x0, ((4 : Int), ()))) fun y0 => (bif (bif (decide ((0 : Int) <= y0.1)) then (decide (y0.1 < (List.length [[(1 : Int), (2 : Int), (3 : Int), (4 : Int)], [(1 : Int), (2 : Int), (3 : Int), (4 : Int), (3 : Int)], [(2 : Int), (3 : Int), (4 : Int), (2 : Int), (1 : Int)], [(4 : Int), (2 : Int), (3 : Int)]] : Int))) else false) then (some ((rdL (e := L_int) [[(1 : Int), (2 : Int), (3 : Int), (4 : Int)], [(1 : Int), (2 : Int), (3 : Int), (4 : Int), (3 : Int)], [(2 : Int), (3 : Int), (4 : Int), (2 : Int), (1 : Int)], [(4 : Int), (2 : Int), (3 : Int)]] y0.1), (y0.2.1, ()))) else none)) := by kernel_rfl
theorem S_a2 (h_a1 : C_a1 p_a1 g_a1) {pre : In_a2 -> Bool} {fn : In_a2 -> Out_a2} (hev : ∀ x, pre x = true -> ∃ k, E_a2 g_a1 p_a1 k x = some (fn x)) : C_a2 pre fn := sound tysOk mixed (fn := Tryz.f118) rfl rfl rfl (.cons h_a1 .nil) _ hev
end
/-! a3: sl1In -/
abbrev M_a3 : List Vm.Mode := [.imm I, .imm I, .imm I]
abbrev R_a3 : List (RK × Sh) := [(.imm, .bool)]
abbrev In_a3 : Type := (insSh M_a3).den
abbrev Out_a3 : Type := (outSh R_a3 M_a3).den
abbrev C_a3 (pre : In_a3 -> Bool) (fn : In_a3 -> Out_a3) : Prop := Sound Tryz.prog 66 ⟨M_a3, R_a3, pre, fn⟩
abbrev X_a3 : Ctx := ctx tys 15 (conOf []) (keepOf []) (fun _ => [])
noncomputable abbrev E_a3 (k : Nat) (x : In_a3) : Option Out_a3 := evFn X_a3 Tryz.f66 R_a3 M_a3 k x
theorem ev_a3 (k : Nat) (x0 : Dm (.imm I)) (x1 : Dm (.imm I)) (x2 : Dm (.imm I)) : E_a3 k (x0, x1, x2, ()) =
  (bif (decide (x1 <= x0)) then (some ((decide (x0 <= x2)), ())) else (some (false, ()))) := by kernel_rfl
theorem S_a3  {pre : In_a3 -> Bool} {fn : In_a3 -> Out_a3} (hev : ∀ x, pre x = true -> ∃ k, E_a3 k x = some (fn x)) : C_a3 pre fn := sound tysOk mixed (fn := Tryz.f66) rfl rfl rfl ConsOk.nil _ hev
/-! a4: sHouNew -/
abbrev M_a4 : List Vm.Mode := [.imm L_int]
abbrev R_a4 : List (RK × Sh) := [(.own, S_HouHouse)]
abbrev In_a4 : Type := (insSh M_a4).den
abbrev Out_a4 : Type := (outSh R_a4 M_a4).den
abbrev C_a4 (pre : In_a4 -> Bool) (fn : In_a4 -> Out_a4) : Prop := Sound Tryz.prog 117 ⟨M_a4, R_a4, pre, fn⟩
section
variable (g_a3 : In_a3 -> Out_a3)
abbrev X_a4 : Ctx := ctx tys 26 (conOf [(66, ⟨M_a3, R_a3, fun _ => true, g_a3⟩)]) (keepOf [(pt0, (⟨[(0, .asis), (2, .asis), (3, .asis)], [(2, (.pair .own (.pair .own .own)))], []⟩ : Keep))]) (fun _ => [])
noncomputable abbrev E_a4 (k : Nat) (x : In_a4) : Option Out_a4 := evFn (X_a4 g_a3) Tryz.f117 R_a4 M_a4 k x
def h0_a4 (x0 : Dm (.imm L_int)) (h0 : Dn I) (h1 : (List (Dn I))) (h2 : (List (Dn S_SpcSpec))) (h3 : (List (Dn S_BatBatch))) : St := mkS [(0, (AV.val L_int x0)), (2, (AV.ptr 2 none [])), (3, (AV.val I h0))] [(2, (Ob.box S_HouHouse (AV.pair (AV.sref 2502 none []) (AV.pair (AV.sref 12502 none []) (AV.sref 22502 none []))))), (2502, (Ob.arr 3 I h1)), (12502, (Ob.arr 83 S_SpcSpec h2)), (22502, (Ob.arr 45 S_BatBatch h3))]
noncomputable def r_a4 (x : In_a4) (k : Nat) (p : List Bool) (s : St) : Option Out_a4 := rounds (X_a4 g_a3) Tryz.f117 R_a4 M_a4 x k p s
variable {g_a3}
theorem ev_a4 (k : Nat) (x0 : Dm (.imm L_int)) : E_a4 g_a3 k (x0, ()) =
  (bif (bif (g_a3 ((List.length x0 : Int), ((1 : Int), ((5 : Int), ())))).1 then false else true) then (some (([], ([], [])), ())) else (r_a4 g_a3 (x0, ()) k pt0 (h0_a4 x0 (0 : Int) [] [] []))) := by kernel_rfl
theorem rd0_a4 (k : Nat) (x0 : Dm (.imm L_int)) (h0 : Dn I) (h1 : (List (Dn I))) (h2 : (List (Dn S_SpcSpec))) (h3 : (List (Dn S_BatBatch))) : r_a4 g_a3 (x0, ()) (k + 1) pt0 (h0_a4 x0 h0 h1 h2 h3) =
  (bif (decide (h0 < (List.length x0 : Int))) then (bif (bif (decide ((0 : Int) <= h0)) then (decide (h0 < (List.length x0 : Int))) else false) then (bif (bif (g_a3 ((rdL (e := I) x0 h0), ((1 : Int), ((4 : Int), ())))).1 then false else true) then (some (([], ([], [])), ())) else (r_a4 g_a3 (x0, ()) k pt0 (h0_a4 x0 (w64 (h0 + (1 : Int))) h1 h2 h3))) else none) else (bif (fitL [] x0) then (some (((List.append [] x0), ([], [])), ())) else none)) := by kernel_rfl
theorem S_a4 (h_a3 : C_a3 (fun _ => true) g_a3) {pre : In_a4 -> Bool} {fn : In_a4 -> Out_a4} (hev : ∀ x, pre x = true -> ∃ k, E_a4 g_a3 k x = some (fn x)) : C_a4 pre fn := sound tysOk mixed (fn := Tryz.f117) rfl rfl rfl (.cons h_a3 .nil) _ hev
end
/-! a5: sl1Ten -/
abbrev M_a5 : List Vm.Mode := [.imm I]
abbrev R_a5 : List (RK × Sh) := [(.imm, I)]
abbrev In_a5 : Type := (insSh M_a5).den
abbrev Out_a5 : Type := (outSh R_a5 M_a5).den
abbrev C_a5 (pre : In_a5 -> Bool) (fn : In_a5 -> Out_a5) : Prop := Sound Tryz.prog 138 ⟨M_a5, R_a5, pre, fn⟩
abbrev X_a5 : Ctx := ctx tys 13 (conOf []) (keepOf [(pt0, (⟨[(0, .asis), (3, .asis), (4, .asis)], [], []⟩ : Keep))]) (fun _ => [])
noncomputable abbrev E_a5 (k : Nat) (x : In_a5) : Option Out_a5 := evFn X_a5 Tryz.f138 R_a5 M_a5 k x
def h0_a5 (x0 : Dm (.imm I)) (h0 : Dn I) (h1 : Dn I) : St := mkS [(0, (AV.val I x0)), (3, (AV.val I h0)), (4, (AV.val I h1))] []
noncomputable def r_a5 (x : In_a5) (k : Nat) (p : List Bool) (s : St) : Option Out_a5 := rounds X_a5 Tryz.f138 R_a5 M_a5 x k p s
theorem ev_a5 (k : Nat) (x0 : Dm (.imm I)) : E_a5 k (x0, ()) =
  (r_a5  (x0, ()) k pt0 (h0_a5 x0 (1 : Int) (0 : Int))) := by kernel_rfl
theorem rd0_a5 (k : Nat) (x0 : Dm (.imm I)) (h0 : Dn I) (h1 : Dn I) : r_a5  (x0, ()) (k + 1) pt0 (h0_a5 x0 h0 h1) =
  (bif (decide (h1 < x0)) then (r_a5  (x0, ()) k pt0 (h0_a5 x0 (w64 (h0 * (10 : Int))) (w64 (h1 + (1 : Int))))) else (some (h0, ()))) := by kernel_rfl
theorem S_a5  {pre : In_a5 -> Bool} {fn : In_a5 -> Out_a5} (hev : ∀ x, pre x = true -> ∃ k, E_a5 k x = some (fn x)) : C_a5 pre fn := sound tysOk mixed (fn := Tryz.f138) rfl rfl rfl ConsOk.nil _ hev
/-! a6: sl20Dec -/
abbrev M_a6 : List Vm.Mode := [.pI S_sl20Rd, .imm I]
abbrev R_a6 : List (RK × Sh) := [(.imm, S_DecDec)]
abbrev In_a6 : Type := (insSh M_a6).den
abbrev Out_a6 : Type := (outSh R_a6 M_a6).den
abbrev C_a6 (pre : In_a6 -> Bool) (fn : In_a6 -> Out_a6) : Prop := Sound Tryz.prog 93 ⟨M_a6, R_a6, pre, fn⟩
section
variable (g_a1 : In_a1 -> Out_a1) (p_a1 : In_a1 -> Bool) (g_a5 : In_a5 -> Out_a5) (p_a5 : In_a5 -> Bool)
abbrev X_a6 : Ctx := ctx tys 53 (conOf [(58, ⟨M_a1, R_a1, p_a1, g_a1⟩), (138, ⟨M_a5, R_a5, p_a5, g_a5⟩)]) (keepOf []) (fun _ => [])
noncomputable abbrev E_a6 (k : Nat) (x : In_a6) : Option Out_a6 := evFn (X_a6 g_a1 p_a1 g_a5 p_a5) Tryz.f93 R_a6 M_a6 k x
variable {g_a1 p_a1 g_a5 p_a5}
theorem ev_a6 (k : Nat) (x0 : Dm (.pI S_sl20Rd)) (x1 : Dm (.imm I)) : E_a6 g_a1 p_a1 g_a5 p_a5 k (x0, x1, ()) =
  (cl (p_a1 (x0, ((4 : Int), ()))) (g_a1 (x0, ((4 : Int), ()))) fun y0 => (cl (p_a5 (y0.1, ())) (g_a5 (y0.1, ())) fun y1 => (bif (p_a5 (y0.1, ())) then (cl (p_a1 (y0.2.1, ((256 : Int), ()))) (g_a1 (y0.2.1, ((256 : Int), ()))) fun y2 => (cl (p_a1 (y2.2.1, ((9 : Int), ()))) (g_a1 (y2.2.1, ((9 : Int), ()))) fun y3 => (bif (bif (decide ((0 : Int) <= y3.1)) then (decide (y3.1 < (List.length [(0 : Int), (5 : Int), (15 : Int), (149 : Int), (995 : Int), (-25 : Int), (w64 ((9999 : Int) * y1.1)), (w64 ((-9999 : Int) * y1.1)), (w64 (y2.1 * (7 : Int)))] : Int))) else false) then (cl (p_a1 (y3.2.1, (x1, ()))) (g_a1 (y3.2.1, (x1, ()))) fun y4 => (bif (decide (y4.1 = (0 : Int))) then (cl (p_a1 (y4.2.1, ((2 : Int), ()))) (g_a1 (y4.2.1, ((2 : Int), ()))) fun y5 => (bif (decide (y5.1 = (0 : Int))) then (cl (p_a1 (y5.2.1, ((2 : Int), ()))) (g_a1 (y5.2.1, ((2 : Int), ()))) fun y6 => (bif (bif (decide ((0 : Int) <= y6.1)) then (decide (y6.1 < (List.length [(-1 : Int), (4 : Int)] : Int))) else false) then (some (((rdL (e := I) [(0 : Int), (5 : Int), (15 : Int), (149 : Int), (995 : Int), (-25 : Int), (w64 ((9999 : Int) * y1.1)), (w64 ((-9999 : Int) * y1.1)), (w64 (y2.1 * (7 : Int)))] y3.1), (rdL (e := I) [(-1 : Int), (4 : Int)] y6.1)), (y6.2.1, ()))) else none)) else (bif (p_a5 (y0.1, ())) then (bif (p_a5 (y0.1, ())) then (cl (p_a1 (y5.2.1, ((2 : Int), ()))) (g_a1 (y5.2.1, ((2 : Int), ()))) fun y7 => (bif (bif (decide ((0 : Int) <= y7.1)) then (decide (y7.1 < (List.length [(w64 ((w64 ((9999 : Int) * y1.1)) + (1 : Int))), (w64 ((w64 ((-9999 : Int) * y1.1)) - (1 : Int)))] : Int))) else false) then (some (((rdL (e := I) [(w64 ((w64 ((9999 : Int) * y1.1)) + (1 : Int))), (w64 ((w64 ((-9999 : Int) * y1.1)) - (1 : Int)))] y7.1), y0.1), (y7.2.1, ()))) else none)) else none) else none))) else (some (((rdL (e := I) [(0 : Int), (5 : Int), (15 : Int), (149 : Int), (995 : Int), (-25 : Int), (w64 ((9999 : Int) * y1.1)), (w64 ((-9999 : Int) * y1.1)), (w64 (y2.1 * (7 : Int)))] y3.1), y0.1), (y4.2.1, ()))))) else none))) else none))) := by kernel_rfl
theorem S_a6 (h_a1 : C_a1 p_a1 g_a1) (h_a5 : C_a5 p_a5 g_a5) {pre : In_a6 -> Bool} {fn : In_a6 -> Out_a6} (hev : ∀ x, pre x = true -> ∃ k, E_a6 g_a1 p_a1 g_a5 p_a5 k x = some (fn x)) : C_a6 pre fn := sound tysOk mixed (fn := Tryz.f93) rfl rfl rfl (.cons h_a1 (.cons h_a5 .nil)) _ hev
end
/-! a7: sl20Ask -/
abbrev M_a7 : List Vm.Mode := [.pI S_sl20Rd, .imm I, .imm I]
abbrev R_a7 : List (RK × Sh) := [(.imm, S_SpcTest)]
abbrev In_a7 : Type := (insSh M_a7).den
abbrev Out_a7 : Type := (outSh R_a7 M_a7).den
abbrev C_a7 (pre : In_a7 -> Bool) (fn : In_a7 -> Out_a7) : Prop := Sound Tryz.prog 177 ⟨M_a7, R_a7, pre, fn⟩
section
variable (g_a1 : In_a1 -> Out_a1) (p_a1 : In_a1 -> Bool) (g_a6 : In_a6 -> Out_a6) (p_a6 : In_a6 -> Bool)
abbrev X_a7 : Ctx := ctx tys 55 (conOf [(58, ⟨M_a1, R_a1, p_a1, g_a1⟩), (93, ⟨M_a6, R_a6, p_a6, g_a6⟩)]) (keepOf []) (fun _ => [])
noncomputable abbrev E_a7 (k : Nat) (x : In_a7) : Option Out_a7 := evFn (X_a7 g_a1 p_a1 g_a6 p_a6) Tryz.f177 R_a7 M_a7 k x
variable {g_a1 p_a1 g_a6 p_a6}
theorem ev_a7 (k : Nat) (x0 : Dm (.pI S_sl20Rd)) (x1 : Dm (.imm I)) (x2 : Dm (.imm I)) : E_a7 g_a1 p_a1 g_a6 p_a6 k (x0, x1, x2, ()) =
  (cl (p_a1 (x0, ((3 : Int), ()))) (g_a1 (x0, ((3 : Int), ()))) fun y0 => (bif (bif (decide ((0 : Int) <= y0.1)) then (decide (y0.1 < (List.length [(0 : Int), (10 : Int), (-5 : Int)] : Int))) else false) then (cl (p_a1 (y0.2.1, ((3 : Int), ()))) (g_a1 (y0.2.1, ((3 : Int), ()))) fun y1 => (bif (bif (decide ((0 : Int) <= y1.1)) then (decide (y1.1 < (List.length [(20 : Int), (100 : Int), (15 : Int)] : Int))) else false) then (cl (p_a1 (y1.2.1, ((3 : Int), ()))) (g_a1 (y1.2.1, ((3 : Int), ()))) fun y2 => (cl (p_a1 (y2.2.1, (x2, ()))) (g_a1 (y2.2.1, (x2, ()))) fun y3 => (bif (decide (y3.1 = (0 : Int))) then (cl (p_a1 (y3.2.1, ((4 : Int), ()))) (g_a1 (y3.2.1, ((4 : Int), ()))) fun y4 => (bif (decide (y4.1 = (0 : Int))) then (cl (p_a1 (y4.2.1, ((3 : Int), ()))) (g_a1 (y4.2.1, ((3 : Int), ()))) fun y5 => (bif (bif (decide ((0 : Int) <= y5.1)) then (decide (y5.1 < (List.length [(0 : Int), (5 : Int), (1 : Int)] : Int))) else false) then (some (((rdL (e := I) [(0 : Int), (5 : Int), (1 : Int)] y5.1), (((rdL (e := I) [(0 : Int), (10 : Int), (-5 : Int)] y0.1), (1 : Int)), (((rdL (e := I) [(20 : Int), (100 : Int), (15 : Int)] y1.1), (1 : Int)), y2.1))), (y5.2.1, ()))) else none)) else (bif (decide (y4.1 = (1 : Int))) then (cl (p_a6 (y4.2.1, ((2 : Int), ()))) (g_a6 (y4.2.1, ((2 : Int), ()))) fun y6 => (some ((x1, (y6.1, (((rdL (e := I) [(20 : Int), (100 : Int), (15 : Int)] y1.1), (1 : Int)), y2.1))), (y6.2.1, ())))) else (bif (decide (y4.1 = (2 : Int))) then (cl (p_a6 (y4.2.1, ((2 : Int), ()))) (g_a6 (y4.2.1, ((2 : Int), ()))) fun y7 => (some ((x1, (((rdL (e := I) [(0 : Int), (10 : Int), (-5 : Int)] y0.1), (1 : Int)), (y7.1, y2.1))), (y7.2.1, ())))) else (cl (p_a1 (y4.2.1, ((3 : Int), ()))) (g_a1 (y4.2.1, ((3 : Int), ()))) fun y8 => (bif (bif (decide ((0 : Int) <= y8.1)) then (decide (y8.1 < (List.length [(-1 : Int), (4 : Int), (3 : Int)] : Int))) else false) then (some ((x1, (((rdL (e := I) [(0 : Int), (10 : Int), (-5 : Int)] y0.1), (1 : Int)), (((rdL (e := I) [(20 : Int), (100 : Int), (15 : Int)] y1.1), (1 : Int)), (rdL (e := I) [(-1 : Int), (4 : Int), (3 : Int)] y8.1)))), (y8.2.1, ()))) else none)))))) else (some ((x1, (((rdL (e := I) [(0 : Int), (10 : Int), (-5 : Int)] y0.1), (1 : Int)), (((rdL (e := I) [(20 : Int), (100 : Int), (15 : Int)] y1.1), (1 : Int)), y2.1))), (y3.2.1, ())))))) else none)) else none)) := by kernel_rfl
theorem S_a7 (h_a1 : C_a1 p_a1 g_a1) (h_a6 : C_a6 p_a6 g_a6) {pre : In_a7 -> Bool} {fn : In_a7 -> Out_a7} (hev : ∀ x, pre x = true -> ∃ k, E_a7 g_a1 p_a1 g_a6 p_a6 k x = some (fn x)) : C_a7 pre fn := sound tysOk mixed (fn := Tryz.f177) rfl rfl rfl (.cons h_a1 (.cons h_a6 .nil)) _ hev
end
/-! a8: sl20Tests -/
abbrev M_a8 : List Vm.Mode := [.pI S_sl20Rd, .imm I]
abbrev R_a8 : List (RK × Sh) := [(.own, L_SpcTest)]
abbrev In_a8 : Type := (insSh M_a8).den
abbrev Out_a8 : Type := (outSh R_a8 M_a8).den
abbrev C_a8 (pre : In_a8 -> Bool) (fn : In_a8 -> Out_a8) : Prop := Sound Tryz.prog 121 ⟨M_a8, R_a8, pre, fn⟩
section
variable (g_a1 : In_a1 -> Out_a1) (p_a1 : In_a1 -> Bool) (g_a7 : In_a7 -> Out_a7) (p_a7 : In_a7 -> Bool)
abbrev X_a8 : Ctx := ctx tys 41 (conOf [(58, ⟨M_a1, R_a1, p_a1, g_a1⟩), (177, ⟨M_a7, R_a7, p_a7, g_a7⟩)]) (keepOf [(pt0, (⟨[(0, .asis), (1, .asis), (5, .own), (6, .asis)], [(5000, .asis)], []⟩ : Keep))]) (fun _ => [])
noncomputable abbrev E_a8 (k : Nat) (x : In_a8) : Option Out_a8 := evFn (X_a8 g_a1 p_a1 g_a7 p_a7) Tryz.f121 R_a8 M_a8 k x
def h0_a8 (x0 : Dm (.pI S_sl20Rd)) (x1 : Dm (.imm I)) (h0 : Dn I) (h1 : Dn S_sl20Rd) (h2 : (List (Dn S_SpcTest))) : St := mkS [(0, (AV.ptr 5000 none [])), (1, (AV.val I x1)), (5, (AV.sref 2505 none [])), (6, (AV.val I h0))] [(5000, (Ob.box S_sl20Rd (AV.val S_sl20Rd h1))), (2505, (Ob.arr 53 S_SpcTest h2))]
noncomputable def r_a8 (x : In_a8) (k : Nat) (p : List Bool) (s : St) : Option Out_a8 := rounds (X_a8 g_a1 p_a1 g_a7 p_a7) Tryz.f121 R_a8 M_a8 x k p s
variable {g_a1 p_a1 g_a7 p_a7}
theorem ev_a8 (k : Nat) (x0 : Dm (.pI S_sl20Rd)) (x1 : Dm (.imm I)) : E_a8 g_a1 p_a1 g_a7 p_a7 k (x0, x1, ()) =
  (r_a8 g_a1 p_a1 g_a7 p_a7 (x0, x1, ()) k pt0 (h0_a8 x0 x1 (1 : Int) x0 [])) := by kernel_rfl
theorem rd0_a8 (k : Nat) (x0 : Dm (.pI S_sl20Rd)) (x1 : Dm (.imm I)) (h0 : Dn I) (h1 : Dn S_sl20Rd) (h2 : (List (Dn S_SpcTest))) : r_a8 g_a1 p_a1 g_a7 p_a7 (x0, x1, ()) (k + 1) pt0 (h0_a8 x0 x1 h0 h1 h2) =
  (bif (decide (h0 <= (4 : Int))) then (cl (p_a1 (h1, ((2 : Int), ()))) (g_a1 (h1, ((2 : Int), ()))) fun y0 => (bif (decide (y0.1 = (0 : Int))) then (cl (p_a7 (y0.2.1, (h0, (x1, ())))) (g_a7 (y0.2.1, (h0, (x1, ())))) fun y1 => (bif (fitL h2 [(y1.1)]) then (r_a8 g_a1 p_a1 g_a7 p_a7 (x0, x1, ()) k pt0 (h0_a8 x0 x1 (w64 (h0 + (1 : Int))) (y1.2.1) (List.append h2 [(y1.1)]))) else none)) else (r_a8 g_a1 p_a1 g_a7 p_a7 (x0, x1, ()) k pt0 (h0_a8 x0 x1 (w64 (h0 + (1 : Int))) (y0.2.1) h2)))) else (bif (decide ((List.length h2 : Int) = (0 : Int))) then (cl (p_a7 (h1, ((2 : Int), ((9999 : Int), ())))) (g_a7 (h1, ((2 : Int), ((9999 : Int), ())))) fun y2 => (bif (fitL h2 [(y2.1)]) then (cl (p_a1 (y2.2.1, (x1, ()))) (g_a1 (y2.2.1, (x1, ()))) fun y3 => (bif (decide (y3.1 = (0 : Int))) then (bif (bif (decide ((0 : Int) <= (0 : Int))) then (decide ((0 : Int) < (List.length (List.append h2 [(y2.1)]) : Int))) else false) then (bif (fitL (List.append h2 [(y2.1)]) [(rdL (e := S_SpcTest) (List.append h2 [(y2.1)]) (0 : Int))]) then (some ((List.append (List.append h2 [(y2.1)]) [(rdL (e := S_SpcTest) (List.append h2 [(y2.1)]) (0 : Int))]), (y3.2.1, ()))) else none) else none) else (some ((List.append h2 [(y2.1)]), (y3.2.1, ()))))) else none)) else (cl (p_a1 (h1, (x1, ()))) (g_a1 (h1, (x1, ()))) fun y4 => (bif (decide (y4.1 = (0 : Int))) then (bif (bif (decide ((0 : Int) <= (0 : Int))) then (decide ((0 : Int) < (List.length h2 : Int))) else false) then (bif (fitL h2 [(rdL (e := S_SpcTest) h2 (0 : Int))]) then (some ((List.append h2 [(rdL (e := S_SpcTest) h2 (0 : Int))]), (y4.2.1, ()))) else none) else none) else (some (h2, (y4.2.1, ()))))))) := by kernel_rfl
theorem S_a8 (h_a1 : C_a1 p_a1 g_a1) (h_a7 : C_a7 p_a7 g_a7) {pre : In_a8 -> Bool} {fn : In_a8 -> Out_a8} (hev : ∀ x, pre x = true -> ∃ k, E_a8 g_a1 p_a1 g_a7 p_a7 k x = some (fn x)) : C_a8 pre fn := sound tysOk mixed (fn := Tryz.f121) rfl rfl rfl (.cons h_a1 (.cons h_a7 .nil)) _ hev
end
/-! a9: sSpcNow -/
abbrev M_a9 : List Vm.Mode := [.imm L_SpcSpec]
abbrev R_a9 : List (RK × Sh) := [(.imm, I)]
abbrev In_a9 : Type := (insSh M_a9).den
abbrev Out_a9 : Type := (outSh R_a9 M_a9).den
abbrev C_a9 (pre : In_a9 -> Bool) (fn : In_a9 -> Out_a9) : Prop := Sound Tryz.prog 172 ⟨M_a9, R_a9, pre, fn⟩
abbrev X_a9 : Ctx := ctx tys 17 (conOf []) (keepOf [(pt1, (⟨[(0, .asis), (3, .asis)], [], []⟩ : Keep))]) (fun _ => [])
noncomputable abbrev E_a9 (k : Nat) (x : In_a9) : Option Out_a9 := evFn X_a9 Tryz.f172 R_a9 M_a9 k x
def h0_a9 (x0 : Dm (.imm L_SpcSpec)) (h0 : Dn I) : St := mkS [(0, (AV.val L_SpcSpec x0)), (3, (AV.val I h0))] []
noncomputable def r_a9 (x : In_a9) (k : Nat) (p : List Bool) (s : St) : Option Out_a9 := rounds X_a9 Tryz.f172 R_a9 M_a9 x k p s
theorem ev_a9 (k : Nat) (x0 : Dm (.imm L_SpcSpec)) : E_a9 k (x0, ()) =
  (r_a9  (x0, ()) k pt1 (h0_a9 x0 (0 : Int))) := by kernel_rfl
theorem rd0_a9 (k : Nat) (x0 : Dm (.imm L_SpcSpec)) (h0 : Dn I) : r_a9  (x0, ()) (k + 1) pt1 (h0_a9 x0 h0) =
  (bif (decide (h0 < (List.length x0 : Int))) then (bif (bif (decide ((0 : Int) <= h0)) then (decide (h0 < (List.length x0 : Int))) else false) then (bif (decide ((rdL (e := S_SpcSpec) x0 h0).2 = (2 : Int))) then (some (h0, ())) else (r_a9  (x0, ()) k pt1 (h0_a9 x0 (w64 (h0 + (1 : Int)))))) else none) else (some ((-1 : Int), ()))) := by kernel_rfl
theorem S_a9  {pre : In_a9 -> Bool} {fn : In_a9 -> Out_a9} (hev : ∀ x, pre x = true -> ∃ k, E_a9 k x = some (fn x)) : C_a9 pre fn := sound tysOk mixed (fn := Tryz.f172) rfl rfl rfl ConsOk.nil _ hev
/-! aa: sl8Form -/
abbrev M_aa : List Vm.Mode := [.imm S_ReqReq]
abbrev R_aa : List (RK × Sh) := [(.imm, S_ReqReq)]
abbrev In_aa : Type := (insSh M_aa).den
abbrev Out_aa : Type := (outSh R_aa M_aa).den
abbrev C_aa (pre : In_aa -> Bool) (fn : In_aa -> Out_aa) : Prop := Sound Tryz.prog 68 ⟨M_aa, R_aa, pre, fn⟩
abbrev X_aa : Ctx := ctx tys 61 (conOf []) (keepOf []) (fun _ => [])
noncomputable abbrev E_aa (k : Nat) (x : In_aa) : Option Out_aa := evFn X_aa Tryz.f68 R_aa M_aa k x
theorem ev_aa (k : Nat) (x0 : Dm (.imm S_ReqReq)) : E_aa k (x0, ()) =
  (bif (decide (x0.2.1 = (1 : Int))) then (some ((x0.1, (x0.2.1, ((0 : Int), ((0 : Int), ((0 : Int), (((0 : Int), (0 : Int)), x0.2.2.2.2.2.2)))))), ())) else (bif (decide (x0.2.1 = (2 : Int))) then (some ((x0.1, (x0.2.1, ((0 : Int), ((0 : Int), (x0.2.2.2.2.1, (((0 : Int), (0 : Int)), [])))))), ())) else (bif (decide (x0.2.1 = (3 : Int))) then (some ((x0.1, (x0.2.1, ((0 : Int), ((0 : Int), (x0.2.2.2.2.1, (((0 : Int), (0 : Int)), [])))))), ())) else (bif (decide (x0.2.1 = (4 : Int))) then (some ((x0.1, (x0.2.1, (x0.2.2.1, (x0.2.2.2.1, ((0 : Int), (x0.2.2.2.2.2.1, [])))))), ())) else (bif (decide (x0.2.1 = (6 : Int))) then (some ((x0.1, (x0.2.1, (x0.2.2.1, (x0.2.2.2.1, ((0 : Int), (x0.2.2.2.2.2.1, [])))))), ())) else (bif (decide (x0.2.1 = (5 : Int))) then (some ((x0.1, (x0.2.1, (x0.2.2.1, (x0.2.2.2.1, (x0.2.2.2.2.1, (((0 : Int), (0 : Int)), [])))))), ())) else (bif (decide (x0.2.1 = (8 : Int))) then (some ((x0.1, (x0.2.1, (x0.2.2.1, ((0 : Int), (x0.2.2.2.2.1, (((0 : Int), (0 : Int)), [])))))), ())) else (some ((x0.1, (x0.2.1, (x0.2.2.1, ((0 : Int), ((0 : Int), (((0 : Int), (0 : Int)), [])))))), ()))))))))) := by kernel_rfl
theorem S_aa  {pre : In_aa -> Bool} {fn : In_aa -> Out_aa} (hev : ∀ x, pre x = true -> ∃ k, E_aa k x = some (fn x)) : C_aa pre fn := sound tysOk mixed (fn := Tryz.f68) rfl rfl rfl ConsOk.nil _ hev
/-! ab: sDecOk -/
abbrev M_ab : List Vm.Mode := [.imm S_DecDec]
abbrev R_ab : List (RK × Sh) := [(.imm, .bool)]
abbrev In_ab : Type := (insSh M_ab).den
abbrev Out_ab : Type := (outSh R_ab M_ab).den
abbrev C_ab (pre : In_ab -> Bool) (fn : In_ab -> Out_ab) : Prop := Sound Tryz.prog 69 ⟨M_ab, R_ab, pre, fn⟩
section
variable (g_a3 : In_a3 -> Out_a3) (g_a5 : In_a5 -> Out_a5) (p_a5 : In_a5 -> Bool)
abbrev X_ab : Ctx := ctx tys 19 (conOf [(66, ⟨M_a3, R_a3, fun _ => true, g_a3⟩), (138, ⟨M_a5, R_a5, p_a5, g_a5⟩)]) (keepOf []) (fun _ => [])
noncomputable abbrev E_ab (k : Nat) (x : In_ab) : Option Out_ab := evFn (X_ab g_a3 g_a5 p_a5) Tryz.f69 R_ab M_ab k x
variable {g_a3 g_a5 p_a5}
theorem ev_ab (k : Nat) (x0 : Dm (.imm S_DecDec)) : E_ab g_a3 g_a5 p_a5 k (x0, ()) =
  (bif (g_a3 (x0.2, ((0 : Int), ((3 : Int), ())))).1 then (bif (p_a5 (x0.2, ())) then (bif (p_a5 (x0.2, ())) then (some ((g_a3 (x0.1, ((w64 ((-9999 : Int) * (g_a5 (x0.2, ())).1)), ((w64 ((9999 : Int) * (g_a5 (x0.2, ())).1)), ())))).1, ())) else none) else none) else (some (false, ()))) := by kernel_rfl
theorem S_ab (h_a3 : C_a3 (fun _ => true) g_a3) (h_a5 : C_a5 p_a5 g_a5) {pre : In_ab -> Bool} {fn : In_ab -> Out_ab} (hev : ∀ x, pre x = true -> ∃ k, E_ab g_a3 g_a5 p_a5 k x = some (fn x)) : C_ab pre fn := sound tysOk mixed (fn := Tryz.f69) rfl rfl rfl (.cons h_a3 (.cons h_a5 .nil)) _ hev
end
/-! ac: sl1Near -/
abbrev M_ac : List Vm.Mode := [.imm I, .imm I]
abbrev R_ac : List (RK × Sh) := [(.imm, I)]
abbrev In_ac : Type := (insSh M_ac).den
abbrev Out_ac : Type := (outSh R_ac M_ac).den
abbrev C_ac (pre : In_ac -> Bool) (fn : In_ac -> Out_ac) : Prop := Sound Tryz.prog 210 ⟨M_ac, R_ac, pre, fn⟩
section
variable (g_ac : In_ac -> Out_ac) (p_ac : In_ac -> Bool)
abbrev X_ac : Ctx := ctx tys 19 (conOf [(210, ⟨M_ac, R_ac, p_ac, g_ac⟩)]) (keepOf []) (fun _ => [])
noncomputable abbrev E_ac (k : Nat) (x : In_ac) : Option Out_ac := evFn (X_ac g_ac p_ac) Tryz.f210 R_ac M_ac k x
variable {g_ac p_ac}
theorem ev_ac (k : Nat) (x0 : Dm (.imm I)) (x1 : Dm (.imm I)) : E_ac g_ac p_ac k (x0, x1, ()) =
  (bif (decide (x0 < (0 : Int))) then (bif (p_ac ((w64 ((0 : Int) - x0)), (x1, ()))) then (some ((w64 ((0 : Int) - (g_ac ((w64 ((0 : Int) - x0)), (x1, ()))).1)), ())) else none) else (bif (bif (decide ((w64 ((2 : Int) * x1)) = (0 : Int))) then false else true) then (some ((w64 (Int.tdiv (w64 ((w64 ((2 : Int) * x0)) + x1)) (w64 ((2 : Int) * x1)))), ())) else none)) := by kernel_rfl
theorem S_ac (h_ac : C_ac p_ac g_ac) {pre : In_ac -> Bool} {fn : In_ac -> Out_ac} (hev : ∀ x, pre x = true -> ∃ k, E_ac g_ac p_ac k x = some (fn x)) : C_ac pre fn := sound tysOk mixed (fn := Tryz.f210) rfl rfl rfl (.cons h_ac .nil) _ hev
end
theorem S0_ac {fn : In_ac -> Out_ac} : C_ac (fun _ => false) fn := sound tysOk mixed (fn := Tryz.f210) (n := 19) (keep := keepOf []) (fz := fun _ => []) rfl rfl rfl ConsOk.nil _ fun x hx => by cases hx
/-! ad: sl1At -/
abbrev M_ad : List Vm.Mode := [.imm S_DecDec, .imm I]
abbrev R_ad : List (RK × Sh) := [(.imm, S_DecDec)]
abbrev In_ad : Type := (insSh M_ad).den
abbrev Out_ad : Type := (outSh R_ad M_ad).den
abbrev C_ad (pre : In_ad -> Bool) (fn : In_ad -> Out_ad) : Prop := Sound Tryz.prog 192 ⟨M_ad, R_ad, pre, fn⟩
section
variable (g_a5 : In_a5 -> Out_a5) (p_a5 : In_a5 -> Bool) (g_ac : In_ac -> Out_ac) (p_ac : In_ac -> Bool)
abbrev X_ad : Ctx := ctx tys 29 (conOf [(138, ⟨M_a5, R_a5, p_a5, g_a5⟩), (210, ⟨M_ac, R_ac, p_ac, g_ac⟩)]) (keepOf []) (fun _ => [])
noncomputable abbrev E_ad (k : Nat) (x : In_ad) : Option Out_ad := evFn (X_ad g_a5 p_a5 g_ac p_ac) Tryz.f192 R_ad M_ad k x
variable {g_a5 p_a5 g_ac p_ac}
theorem ev_ad (k : Nat) (x0 : Dm (.imm S_DecDec)) (x1 : Dm (.imm I)) : E_ad g_a5 p_a5 g_ac p_ac k (x0, x1, ()) =
  (bif (decide (x0.2 <= x1)) then (bif (p_a5 ((w64 (x1 - x0.2)), ())) then (some (((w64 (x0.1 * (g_a5 ((w64 (x1 - x0.2)), ())).1)), x1), ())) else none) else (bif (p_a5 ((w64 (x0.2 - x1)), ())) then (bif (p_ac (x0.1, ((g_a5 ((w64 (x0.2 - x1)), ())).1, ()))) then (some (((g_ac (x0.1, ((g_a5 ((w64 (x0.2 - x1)), ())).1, ()))).1, x1), ())) else none) else none)) := by kernel_rfl
theorem S_ad (h_a5 : C_a5 p_a5 g_a5) (h_ac : C_ac p_ac g_ac) {pre : In_ad -> Bool} {fn : In_ad -> Out_ad} (hev : ∀ x, pre x = true -> ∃ k, E_ad g_a5 p_a5 g_ac p_ac k x = some (fn x)) : C_ad pre fn := sound tysOk mixed (fn := Tryz.f192) rfl rfl rfl (.cons h_a5 (.cons h_ac .nil)) _ hev
end
/-! ae: sDecAt -/
abbrev M_ae : List Vm.Mode := [.imm S_DecDec, .imm I]
abbrev R_ae : List (RK × Sh) := [(.imm, S_DecDec)]
abbrev In_ae : Type := (insSh M_ae).den
abbrev Out_ae : Type := (outSh R_ae M_ae).den
abbrev C_ae (pre : In_ae -> Bool) (fn : In_ae -> Out_ae) : Prop := Sound Tryz.prog 159 ⟨M_ae, R_ae, pre, fn⟩
section
variable (g_ab : In_ab -> Out_ab) (g_a3 : In_a3 -> Out_a3) (g_ad : In_ad -> Out_ad) (p_ad : In_ad -> Bool)
abbrev X_ae : Ctx := ctx tys 17 (conOf [(69, ⟨M_ab, R_ab, fun _ => true, g_ab⟩), (66, ⟨M_a3, R_a3, fun _ => true, g_a3⟩), (192, ⟨M_ad, R_ad, p_ad, g_ad⟩)]) (keepOf []) (fun _ => [])
noncomputable abbrev E_ae (k : Nat) (x : In_ae) : Option Out_ae := evFn (X_ae g_ab g_a3 g_ad p_ad) Tryz.f159 R_ae M_ae k x
variable {g_ab g_a3 g_ad p_ad}
theorem ev_ae (k : Nat) (x0 : Dm (.imm S_DecDec)) (x1 : Dm (.imm I)) : E_ae g_ab g_a3 g_ad p_ad k (x0, x1, ()) =
  (bif (bif (g_ab (x0, ())).1 then false else true) then (some (((0 : Int), (0 : Int)), ())) else (bif (bif (g_a3 (x1, ((0 : Int), ((3 : Int), ())))).1 then false else true) then (some (((0 : Int), (0 : Int)), ())) else (bif (p_ad (x0, (x1, ()))) then (some ((g_ad (x0, (x1, ()))).1, ())) else none))) := by kernel_rfl
theorem S_ae (h_ab : C_ab (fun _ => true) g_ab) (h_a3 : C_a3 (fun _ => true) g_a3) (h_ad : C_ad p_ad g_ad) {pre : In_ae -> Bool} {fn : In_ae -> Out_ae} (hev : ∀ x, pre x = true -> ∃ k, E_ae g_ab g_a3 g_ad p_ad k x = some (fn x)) : C_ae pre fn := sound tysOk mixed (fn := Tryz.f159) rfl rfl rfl (.cons h_ab (.cons h_a3 (.cons h_ad .nil))) _ hev
end
/-! af: sl20Value -/
abbrev M_af : List Vm.Mode := [.pI S_sl20Rd, .imm S_SpcTest]
abbrev R_af : List (RK × Sh) := [(.imm, S_DecDec)]
abbrev In_af : Type := (insSh M_af).den
abbrev Out_af : Type := (outSh R_af M_af).den
abbrev C_af (pre : In_af -> Bool) (fn : In_af -> Out_af) : Prop := Sound Tryz.prog 94 ⟨M_af, R_af, pre, fn⟩
section
variable (g_ae : In_ae -> Out_ae) (g_a1 : In_a1 -> Out_a1) (p_a1 : In_a1 -> Bool)
abbrev X_af : Ctx := ctx tys 50 (conOf [(159, ⟨M_ae, R_ae, fun _ => true, g_ae⟩), (58, ⟨M_a1, R_a1, p_a1, g_a1⟩)]) (keepOf []) (fun _ => [])
noncomputable abbrev E_af (k : Nat) (x : In_af) : Option Out_af := evFn (X_af g_ae g_a1 p_a1) Tryz.f94 R_af M_af k x
variable {g_ae g_a1 p_a1}
theorem ev_af (k : Nat) (x0 : Dm (.pI S_sl20Rd)) (x1 : Dm (.imm S_SpcTest)) : E_af g_ae g_a1 p_a1 k (x0, x1, ()) =
  (cl (p_a1 (x0, ((5 : Int), ()))) (g_a1 (x0, ((5 : Int), ()))) fun y0 => (bif (decide (y0.1 = (0 : Int))) then (cl (p_a1 (y0.2.1, ((4 : Int), ()))) (g_a1 (y0.2.1, ((4 : Int), ()))) fun y1 => (bif (bif (decide ((0 : Int) <= y1.1)) then (decide (y1.1 < (List.length [(1 : Int), (4 : Int), (5 : Int), (30 : Int)] : Int))) else false) then (some (((w64 ((g_ae (x1.2.2.1, ((2 : Int), ()))).1.1 + (rdL (e := I) [(1 : Int), (4 : Int), (5 : Int), (30 : Int)] y1.1))), (g_ae (x1.2.2.1, ((2 : Int), ()))).1.2), (y1.2.1, ()))) else none)) else (bif (decide (y0.1 = (1 : Int))) then (cl (p_a1 (y0.2.1, ((4 : Int), ()))) (g_a1 (y0.2.1, ((4 : Int), ()))) fun y2 => (bif (bif (decide ((0 : Int) <= y2.1)) then (decide (y2.1 < (List.length [(1 : Int), (4 : Int), (5 : Int), (30 : Int)] : Int))) else false) then (some (((w64 ((g_ae (x1.2.1, ((2 : Int), ()))).1.1 - (rdL (e := I) [(1 : Int), (4 : Int), (5 : Int), (30 : Int)] y2.1))), (g_ae (x1.2.1, ((2 : Int), ()))).1.2), (y2.2.1, ()))) else none)) else (bif (decide (y0.1 = (2 : Int))) then (cl (p_a1 (y0.2.1, ((6 : Int), ()))) (g_a1 (y0.2.1, ((6 : Int), ()))) fun y3 => (some (((w64 ((g_ae (x1.2.2.1, ((2 : Int), ()))).1.1 - y3.1)), (g_ae (x1.2.2.1, ((2 : Int), ()))).1.2), (y3.2.1, ())))) else (bif (decide (y0.1 = (3 : Int))) then (some ((g_ae (x1.2.1, ((1 : Int), ()))).1, (y0.2.1, ()))) else (some ((g_ae (x1.2.2.1, ((2 : Int), ()))).1, (y0.2.1, ())))))))) := by kernel_rfl
theorem S_af (h_ae : C_ae (fun _ => true) g_ae) (h_a1 : C_a1 p_a1 g_a1) {pre : In_af -> Bool} {fn : In_af -> Out_af} (hev : ∀ x, pre x = true -> ∃ k, E_af g_ae g_a1 p_a1 k x = some (fn x)) : C_af pre fn := sound tysOk mixed (fn := Tryz.f94) rfl rfl rfl (.cons h_ae (.cons h_a1 .nil)) _ hev
end
/-! ag: sl21Good -/
abbrev M_ag : List Vm.Mode := [.pI S_sl20Rd, .imm S_SpcTest]
abbrev R_ag : List (RK × Sh) := [(.imm, S_DecDec)]
abbrev In_ag : Type := (insSh M_ag).den
abbrev Out_ag : Type := (outSh R_ag M_ag).den
abbrev C_ag (pre : In_ag -> Bool) (fn : In_ag -> Out_ag) : Prop := Sound Tryz.prog 200 ⟨M_ag, R_ag, pre, fn⟩
section
variable (g_a1 : In_a1 -> Out_a1) (p_a1 : In_a1 -> Bool) (g_af : In_af -> Out_af) (p_af : In_af -> Bool)
abbrev X_ag : Ctx := ctx tys 12 (conOf [(58, ⟨M_a1, R_a1, p_a1, g_a1⟩), (94, ⟨M_af, R_af, p_af, g_af⟩)]) (keepOf []) (fun _ => [])
noncomputable abbrev E_ag (k : Nat) (x : In_ag) : Option Out_ag := evFn (X_ag g_a1 p_a1 g_af p_af) Tryz.f200 R_ag M_ag k x
variable {g_a1 p_a1 g_af p_af}
theorem ev_ag (k : Nat) (x0 : Dm (.pI S_sl20Rd)) (x1 : Dm (.imm S_SpcTest)) : E_ag g_a1 p_a1 g_af p_af k (x0, x1, ()) =
  (cl (p_a1 (x0, ((4 : Int), ()))) (g_a1 (x0, ((4 : Int), ()))) fun y0 => (bif (decide (y0.1 = (0 : Int))) then (cl (p_af (y0.2.1, (x1, ()))) (g_af (y0.2.1, (x1, ()))) fun y1 => (some (y1.1, (y1.2.1, ())))) else (some (((150 : Int), (2 : Int)), (y0.2.1, ()))))) := by kernel_rfl
theorem S_ag (h_a1 : C_a1 p_a1 g_a1) (h_af : C_af p_af g_af) {pre : In_ag -> Bool} {fn : In_ag -> Out_ag} (hev : ∀ x, pre x = true -> ∃ k, E_ag g_a1 p_a1 g_af p_af k x = some (fn x)) : C_ag pre fn := sound tysOk mixed (fn := Tryz.f200) rfl rfl rfl (.cons h_a1 (.cons h_af .nil)) _ hev
end
/-! ah: sl6Mix -/
abbrev M_ah : List Vm.Mode := [.imm I, .imm I]
abbrev R_ah : List (RK × Sh) := [(.imm, I)]
abbrev In_ah : Type := (insSh M_ah).den
abbrev Out_ah : Type := (outSh R_ah M_ah).den
abbrev C_ah (pre : In_ah -> Bool) (fn : In_ah -> Out_ah) : Prop := Sound Tryz.prog 153 ⟨M_ah, R_ah, pre, fn⟩
abbrev X_ah : Ctx := ctx tys 13 (conOf []) (keepOf []) (fun _ => [])
noncomputable abbrev E_ah (k : Nat) (x : In_ah) : Option Out_ah := evFn X_ah Tryz.f153 R_ah M_ah k x
theorem ev_ah (k : Nat) (x0 : Dm (.imm I)) (x1 : Dm (.imm I)) : E_ah k (x0, x1, ()) =
  (bif (bif (decide ((999983 : Int) = (0 : Int))) then false else true) then (bif (bif (decide ((999983 : Int) = (0 : Int))) then false else true) then (some ((Int.tmod (w64 ((w64 ((w64 ((w64 (x0 * (8191 : Int))) + (Int.tmod x1 (999983 : Int)))) + (999983 : Int))) + (7 : Int))) (999983 : Int)), ())) else none) else none) := by kernel_rfl
theorem S_ah  {pre : In_ah -> Bool} {fn : In_ah -> Out_ah} (hev : ∀ x, pre x = true -> ∃ k, E_ah k x = some (fn x)) : C_ah pre fn := sound tysOk mixed (fn := Tryz.f153) rfl rfl rfl ConsOk.nil _ hev
/-! ai: sBatMark -/
abbrev M_ai : List Vm.Mode := [.imm S_BatBatch]
abbrev R_ai : List (RK × Sh) := [(.imm, I)]
abbrev In_ai : Type := (insSh M_ai).den
abbrev Out_ai : Type := (outSh R_ai M_ai).den
abbrev C_ai (pre : In_ai -> Bool) (fn : In_ai -> Out_ai) : Prop := Sound Tryz.prog 87 ⟨M_ai, R_ai, pre, fn⟩
section
variable (g_ah : In_ah -> Out_ah)
abbrev X_ai : Ctx := ctx tys 79 (conOf [(153, ⟨M_ah, R_ah, fun _ => true, g_ah⟩)]) (keepOf [(pt2, (⟨[(1, .asis), (3, .asis), (7, .asis)], [(1, .asis)], []⟩ : Keep)), (pt5, (⟨[(1, .asis), (3, .asis), (4, .asis), (5, .asis), (6, .asis)], [(1, .asis), (5, .asis)], []⟩ : Keep)), (pt0, (⟨[(1, .asis), (3, .asis), (4, .asis)], [(1, .asis)], []⟩ : Keep))]) (fun _ => [])
noncomputable abbrev E_ai (k : Nat) (x : In_ai) : Option Out_ai := evFn (X_ai g_ah) Tryz.f87 R_ai M_ai k x
def h0_ai (x0 : Dm (.imm S_BatBatch)) (h0 : Dn I) (h1 : Dn I) : St := mkS [(1, (AV.ptr 1 none [])), (3, (AV.val I h0)), (4, (AV.val I h1))] [(1, (Ob.box S_BatBatch (AV.val S_BatBatch x0)))]
def h1_ai (x0 : Dm (.imm S_BatBatch)) (h0 : Dn I) (h1 : Dn I) (h2 : Dn I) (h3 : Dn S_TstTest) : St := mkS [(1, (AV.ptr 1 none [])), (3, (AV.val I h0)), (4, (AV.val I h1)), (5, (AV.ptr 5 none [])), (6, (AV.val I h2))] [(1, (Ob.box S_BatBatch (AV.val S_BatBatch x0))), (5, (Ob.box S_TstTest (AV.val S_TstTest h3)))]
def h2_ai (x0 : Dm (.imm S_BatBatch)) (h0 : Dn I) (h1 : Dn I) : St := mkS [(1, (AV.ptr 1 none [])), (3, (AV.val I h0)), (7, (AV.val I h1))] [(1, (Ob.box S_BatBatch (AV.val S_BatBatch x0)))]
noncomputable def r_ai (x : In_ai) (k : Nat) (p : List Bool) (s : St) : Option Out_ai := rounds (X_ai g_ah) Tryz.f87 R_ai M_ai x k p s
variable {g_ah}
theorem ev_ai (k : Nat) (x0 : Dm (.imm S_BatBatch)) : E_ai g_ah k (x0, ()) =
  (r_ai g_ah (x0, ()) k pt0 (h0_ai x0 ((g_ah ((1 : Int), (x0.1, ()))).1) (0 : Int))) := by kernel_rfl
theorem rd0_ai (k : Nat) (x0 : Dm (.imm S_BatBatch)) (h0 : Dn I) (h1 : Dn I) : r_ai g_ah (x0, ()) (k + 1) pt0 (h0_ai x0 h0 h1) =
  (bif (decide (h1 < (List.length x0.2.2.1 : Int))) then (bif (bif (decide ((0 : Int) <= h1)) then (decide (h1 < (List.length x0.2.2.1 : Int))) else false) then (r_ai g_ah (x0, ()) k pt5 (h1_ai x0 ((g_ah ((g_ah ((g_ah ((g_ah (h0, ((rdL (e := S_TstTest) x0.2.2.1 h1).2.1, ()))).1, ((rdL (e := S_TstTest) x0.2.2.1 h1).2.2.1.1, ()))).1, ((rdL (e := S_TstTest) x0.2.2.1 h1).2.2.1.2, ()))).1, ((rdL (e := S_TstTest) x0.2.2.1 h1).2.2.2.1, ()))).1) h1 (0 : Int) (rdL (e := S_TstTest) x0.2.2.1 h1))) else none) else (r_ai g_ah (x0, ()) k pt2 (h2_ai x0 h0 (0 : Int)))) := by kernel_rfl
theorem rd1_ai (k : Nat) (x0 : Dm (.imm S_BatBatch)) (h0 : Dn I) (h1 : Dn I) (h2 : Dn I) (h3 : Dn S_TstTest) : r_ai g_ah (x0, ()) (k + 1) pt5 (h1_ai x0 h0 h1 h2 h3) =
  (bif (decide (h2 < (List.length h3.2.2.2.2 : Int))) then (bif (bif (decide ((0 : Int) <= h2)) then (decide (h2 < (List.length h3.2.2.2.2 : Int))) else false) then (bif (bif (decide ((0 : Int) <= h2)) then (decide (h2 < (List.length h3.2.2.2.2 : Int))) else false) then (r_ai g_ah (x0, ()) k pt5 (h1_ai x0 ((g_ah ((g_ah (h0, ((rdL (e := S_DecDec) h3.2.2.2.2 h2).1, ()))).1, ((rdL (e := S_DecDec) h3.2.2.2.2 h2).2, ()))).1) h1 (w64 (h2 + (1 : Int))) h3)) else none) else none) else (r_ai g_ah (x0, ()) k pt0 (h0_ai x0 h0 (w64 (h1 + (1 : Int)))))) := by kernel_rfl
theorem rd2_ai (k : Nat) (x0 : Dm (.imm S_BatBatch)) (h0 : Dn I) (h1 : Dn I) : r_ai g_ah (x0, ()) (k + 1) pt2 (h2_ai x0 h0 h1) =
  (bif (decide (h1 < (List.length x0.2.2.2.2.2 : Int))) then (bif (bif (decide ((0 : Int) <= h1)) then (decide (h1 < (List.length x0.2.2.2.2.2 : Int))) else false) then (bif (rdL (e := Sh.bool) x0.2.2.2.2.2 h1) then (r_ai g_ah (x0, ()) k pt2 (h2_ai x0 ((g_ah ((g_ah (h0, ((w64 (h1 + (1 : Int))), ()))).1, ((77 : Int), ()))).1) (w64 (h1 + (1 : Int))))) else (r_ai g_ah (x0, ()) k pt2 (h2_ai x0 ((g_ah (h0, ((w64 (h1 + (1 : Int))), ()))).1) (w64 (h1 + (1 : Int)))))) else none) else (some (h0, ()))) := by kernel_rfl
theorem S_ai (h_ah : C_ah (fun _ => true) g_ah) {pre : In_ai -> Bool} {fn : In_ai -> Out_ai} (hev : ∀ x, pre x = true -> ∃ k, E_ai g_ah k x = some (fn x)) : C_ai pre fn := sound tysOk mixed (fn := Tryz.f87) rfl rfl rfl (.cons h_ah .nil) _ hev
end
/-! aj: sBatSigned -/
abbrev M_aj : List Vm.Mode := [.imm S_BatBatch, .imm I, .imm I]
abbrev R_aj : List (RK × Sh) := [(.imm, I)]
abbrev In_aj : Type := (insSh M_aj).den
abbrev Out_aj : Type := (outSh R_aj M_aj).den
abbrev C_aj (pre : In_aj -> Bool) (fn : In_aj -> Out_aj) : Prop := Sound Tryz.prog 190 ⟨M_aj, R_aj, pre, fn⟩
section
variable (g_ai : In_ai -> Out_ai) (p_ai : In_ai -> Bool)
abbrev X_aj : Ctx := ctx tys 50 (conOf [(87, ⟨M_ai, R_ai, p_ai, g_ai⟩)]) (keepOf [(pt1, (⟨[(1, .asis), (2, .asis), (3, .asis), (7, .asis)], [(3, .asis)], []⟩ : Keep))]) (fun _ => [])
noncomputable abbrev E_aj (k : Nat) (x : In_aj) : Option Out_aj := evFn (X_aj g_ai p_ai) Tryz.f190 R_aj M_aj k x
def h0_aj (x0 : Dm (.imm S_BatBatch)) (x1 : Dm (.imm I)) (x2 : Dm (.imm I)) (h0 : Dn I) : St := mkS [(1, (AV.val I x1)), (2, (AV.val I x2)), (3, (AV.ptr 3 none [])), (7, (AV.val I h0))] [(3, (Ob.box S_BatBatch (AV.val S_BatBatch x0)))]
noncomputable def r_aj (x : In_aj) (k : Nat) (p : List Bool) (s : St) : Option Out_aj := rounds (X_aj g_ai p_ai) Tryz.f190 R_aj M_aj x k p s
variable {g_ai p_ai}
theorem ev_aj (k : Nat) (x0 : Dm (.imm S_BatBatch)) (x1 : Dm (.imm I)) (x2 : Dm (.imm I)) : E_aj g_ai p_ai k (x0, x1, x2, ()) =
  (r_aj g_ai p_ai (x0, x1, x2, ()) k pt1 (h0_aj x0 x1 x2 (0 : Int))) := by kernel_rfl
theorem rd0_aj (k : Nat) (x0 : Dm (.imm S_BatBatch)) (x1 : Dm (.imm I)) (x2 : Dm (.imm I)) (h0 : Dn I) : r_aj g_ai p_ai (x0, x1, x2, ()) (k + 1) pt1 (h0_aj x0 x1 x2 h0) =
  (bif (decide (h0 < (List.length x0.2.2.2.2.1 : Int))) then (bif (bif (decide ((0 : Int) <= h0)) then (decide (h0 < (List.length x0.2.2.2.2.1 : Int))) else false) then (bif (decide ((rdL (e := S_BatSig) x0.2.2.2.2.1 h0).2.1 = x1)) then (bif (bif (decide ((0 : Int) <= h0)) then (decide (h0 < (List.length x0.2.2.2.2.1 : Int))) else false) then (bif (bif (decide ((rdL (e := S_BatSig) x0.2.2.2.2.1 h0).1 = x2)) then false else true) then (bif (bif (decide ((0 : Int) <= h0)) then (decide (h0 < (List.length x0.2.2.2.2.1 : Int))) else false) then (cl (p_ai (x0, ())) (g_ai (x0, ())) fun y0 => (bif (decide ((rdL (e := S_BatSig) x0.2.2.2.2.1 h0).2.2 = y0.1)) then (bif (bif (decide ((0 : Int) <= h0)) then (decide (h0 < (List.length x0.2.2.2.2.1 : Int))) else false) then (some ((rdL (e := S_BatSig) x0.2.2.2.2.1 h0).1, ())) else none) else (r_aj g_ai p_ai (x0, x1, x2, ()) k pt1 (h0_aj x0 x1 x2 (w64 (h0 + (1 : Int))))))) else none) else (r_aj g_ai p_ai (x0, x1, x2, ()) k pt1 (h0_aj x0 x1 x2 (w64 (h0 + (1 : Int)))))) else none) else (r_aj g_ai p_ai (x0, x1, x2, ()) k pt1 (h0_aj x0 x1 x2 (w64 (h0 + (1 : Int)))))) else none) else (some ((0 : Int), ()))) := by kernel_rfl
theorem S_aj (h_ai : C_ai p_ai g_ai) {pre : In_aj -> Bool} {fn : In_aj -> Out_aj} (hev : ∀ x, pre x = true -> ∃ k, E_aj g_ai p_ai k x = some (fn x)) : C_aj pre fn := sound tysOk mixed (fn := Tryz.f190) rfl rfl rfl (.cons h_ai .nil) _ hev
end
/-! ak: sl6Hands -/
abbrev M_ak : List Vm.Mode := [.imm S_BatBatch]
abbrev R_ak : List (RK × Sh) := [(.imm, .bool)]
abbrev In_ak : Type := (insSh M_ak).den
abbrev Out_ak : Type := (outSh R_ak M_ak).den
abbrev C_ak (pre : In_ak -> Bool) (fn : In_ak -> Out_ak) : Prop := Sound Tryz.prog 148 ⟨M_ak, R_ak, pre, fn⟩
section
variable (g_ai : In_ai -> Out_ai) (p_ai : In_ai -> Bool) (g_aj : In_aj -> Out_aj) (p_aj : In_aj -> Bool)
abbrev X_ak : Ctx := ctx tys 44 (conOf [(87, ⟨M_ai, R_ai, p_ai, g_ai⟩), (190, ⟨M_aj, R_aj, p_aj, g_aj⟩)]) (keepOf [(pt3, (⟨[(1, .asis), (3, .asis), (4, .asis)], [(1, .asis)], []⟩ : Keep)), (pt1, (⟨[(1, .asis), (3, .asis)], [(1, .asis)], []⟩ : Keep))]) (fun _ => [])
noncomputable abbrev E_ak (k : Nat) (x : In_ak) : Option Out_ak := evFn (X_ak g_ai p_ai g_aj p_aj) Tryz.f148 R_ak M_ak k x
def h0_ak (x0 : Dm (.imm S_BatBatch)) (h0 : Dn I) : St := mkS [(1, (AV.ptr 1 none [])), (3, (AV.val I h0))] [(1, (Ob.box S_BatBatch (AV.val S_BatBatch x0)))]
def h1_ak (x0 : Dm (.imm S_BatBatch)) (h0 : Dn I) (h1 : Dn I) : St := mkS [(1, (AV.ptr 1 none [])), (3, (AV.val I h0)), (4, (AV.val I h1))] [(1, (Ob.box S_BatBatch (AV.val S_BatBatch x0)))]
noncomputable def r_ak (x : In_ak) (k : Nat) (p : List Bool) (s : St) : Option Out_ak := rounds (X_ak g_ai p_ai g_aj p_aj) Tryz.f148 R_ak M_ak x k p s
variable {g_ai p_ai g_aj p_aj}
theorem ev_ak (k : Nat) (x0 : Dm (.imm S_BatBatch)) : E_ak g_ai p_ai g_aj p_aj k (x0, ()) =
  (r_ak g_ai p_ai g_aj p_aj (x0, ()) k pt1 (h0_ak x0 (1 : Int))) := by kernel_rfl
theorem rd0_ak (k : Nat) (x0 : Dm (.imm S_BatBatch)) (h0 : Dn I) : r_ak g_ai p_ai g_aj p_aj (x0, ()) (k + 1) pt1 (h0_ak x0 h0) =
  (bif (decide (h0 <= (5 : Int))) then (r_ak g_ai p_ai g_aj p_aj (x0, ()) k pt3 (h1_ak x0 h0 (0 : Int))) else (some (false, ()))) := by kernel_rfl
theorem rd1_ak (k : Nat) (x0 : Dm (.imm S_BatBatch)) (h0 : Dn I) (h1 : Dn I) : r_ak g_ai p_ai g_aj p_aj (x0, ()) (k + 1) pt3 (h1_ak x0 h0 h1) =
  (bif (decide (h1 < (List.length x0.2.2.2.2.1 : Int))) then (bif (bif (decide ((0 : Int) <= h1)) then (decide (h1 < (List.length x0.2.2.2.2.1 : Int))) else false) then (bif (decide ((rdL (e := S_BatSig) x0.2.2.2.2.1 h1).1 = h0)) then (bif (decide ((rdL (e := S_BatSig) x0.2.2.2.2.1 h1).2.1 = (2 : Int))) then (cl (p_ai (x0, ())) (g_ai (x0, ())) fun y0 => (bif (decide ((rdL (e := S_BatSig) x0.2.2.2.2.1 h1).2.2 = y0.1)) then (cl (p_aj (x0, ((3 : Int), (h0, ())))) (g_aj (x0, ((3 : Int), (h0, ())))) fun y1 => (bif (decide ((0 : Int) < y1.1)) then (some (true, ())) else (r_ak g_ai p_ai g_aj p_aj (x0, ()) k pt3 (h1_ak x0 h0 (w64 (h1 + (1 : Int))))))) else (r_ak g_ai p_ai g_aj p_aj (x0, ()) k pt3 (h1_ak x0 h0 (w64 (h1 + (1 : Int))))))) else (r_ak g_ai p_ai g_aj p_aj (x0, ()) k pt3 (h1_ak x0 h0 (w64 (h1 + (1 : Int)))))) else (r_ak g_ai p_ai g_aj p_aj (x0, ()) k pt3 (h1_ak x0 h0 (w64 (h1 + (1 : Int)))))) else none) else (r_ak g_ai p_ai g_aj p_aj (x0, ()) k pt1 (h0_ak x0 (w64 (h0 + (1 : Int)))))) := by kernel_rfl
theorem S_ak (h_ai : C_ai p_ai g_ai) (h_aj : C_aj p_aj g_aj) {pre : In_ak -> Bool} {fn : In_ak -> Out_ak} (hev : ∀ x, pre x = true -> ∃ k, E_ak g_ai p_ai g_aj p_aj k x = some (fn x)) : C_ak pre fn := sound tysOk mixed (fn := Tryz.f148) rfl rfl rfl (.cons h_ai (.cons h_aj .nil)) _ hev
end
/-! al: sl21Next -/
abbrev M_al : List Vm.Mode := [.pI S_sl20Rd, .imm S_HouHouse, .imm I]
abbrev R_al : List (RK × Sh) := [(.own, S_ReqReq)]
abbrev In_al : Type := (insSh M_al).den
abbrev Out_al : Type := (outSh R_al M_al).den
abbrev C_al (pre : In_al -> Bool) (fn : In_al -> Out_al) : Prop := Sound Tryz.prog 173 ⟨M_al, R_al, pre, fn⟩
section
variable (g_ag : In_ag -> Out_ag) (p_ag : In_ag -> Bool) (g_a1 : In_a1 -> Out_a1) (p_a1 : In_a1 -> Bool) (g_ak : In_ak -> Out_ak) (p_ak : In_ak -> Bool)
abbrev X_al : Ctx := ctx tys 91 (conOf [(200, ⟨M_ag, R_ag, p_ag, g_ag⟩), (58, ⟨M_a1, R_a1, p_a1, g_a1⟩), (148, ⟨M_ak, R_ak, p_ak, g_ak⟩)]) (keepOf [(pt2, (⟨[(0, .asis), (2, .asis), (6, .asis), (7, .asis), (11, .asis)], [(6, (.pair .asis (.pair .asis (.pair .asis (.pair .asis (.pair .asis (.pair .asis .own))))))), (7, .asis), (5000, .asis)], []⟩ : Keep)), (pt0, (⟨[(0, .asis), (2, .asis), (6, .asis), (7, .asis), (8, .asis)], [(6, (.pair .asis (.pair .asis (.pair .asis (.pair .asis (.pair .asis (.pair .asis .own))))))), (7, .asis), (5000, .asis)], []⟩ : Keep))]) (fun _ => [])
noncomputable abbrev E_al (k : Nat) (x : In_al) : Option Out_al := evFn (X_al g_ag p_ag g_a1 p_a1 g_ak p_ak) Tryz.f173 R_al M_al k x
def h0_al (x0 : Dm (.pI S_sl20Rd)) (x1 : Dm (.imm S_HouHouse)) (x2 : Dm (.imm I)) (h0 : Dn I) (h1 : Dn I) (h2 : Dn I) (h3 : Dn I) (h4 : Dn I) (h5 : Dn I) (h6 : Dn S_DecDec) (h7 : (List (Dn S_SpcTest))) (h8 : Dn S_BatBatch) (h9 : Dn S_sl20Rd) : St := mkS [(0, (AV.ptr 5000 none [])), (2, (AV.val I x2)), (6, (AV.ptr 6 none [])), (7, (AV.ptr 7 none [])), (8, (AV.val I h0))] [(6, (Ob.box S_ReqReq (AV.pair (AV.val I h1) (AV.pair (AV.val I h2) (AV.pair (AV.val I h3) (AV.pair (AV.val I h4) (AV.pair (AV.val I h5) (AV.pair (AV.val S_DecDec h6) (AV.sref 2506 none []))))))))), (2506, (Ob.arr 53 S_SpcTest h7)), (7, (Ob.box S_BatBatch (AV.val S_BatBatch h8))), (5000, (Ob.box S_sl20Rd (AV.val S_sl20Rd h9)))]
def h1_al (x0 : Dm (.pI S_sl20Rd)) (x1 : Dm (.imm S_HouHouse)) (x2 : Dm (.imm I)) (h0 : Dn I) (h1 : Dn I) (h2 : Dn I) (h3 : Dn I) (h4 : Dn I) (h5 : Dn I) (h6 : Dn S_DecDec) (h7 : (List (Dn S_SpcTest))) (h8 : Dn S_BatBatch) (h9 : Dn S_sl20Rd) : St := mkS [(0, (AV.ptr 5000 none [])), (2, (AV.val I x2)), (6, (AV.ptr 6 none [])), (7, (AV.ptr 7 none [])), (11, (AV.val I h0))] [(6, (Ob.box S_ReqReq (AV.pair (AV.val I h1) (AV.pair (AV.val I h2) (AV.pair (AV.val I h3) (AV.pair (AV.val I h4) (AV.pair (AV.val I h5) (AV.pair (AV.val S_DecDec h6) (AV.sref 2506 none []))))))))), (2506, (Ob.arr 53 S_SpcTest h7)), (7, (Ob.box S_BatBatch (AV.val S_BatBatch h8))), (5000, (Ob.box S_sl20Rd (AV.val S_sl20Rd h9)))]
noncomputable def r_al (x : In_al) (k : Nat) (p : List Bool) (s : St) : Option Out_al := rounds (X_al g_ag p_ag g_a1 p_a1 g_ak p_ak) Tryz.f173 R_al M_al x k p s
variable {g_ag p_ag g_a1 p_a1 g_ak p_ak}
theorem ev_al (k : Nat) (x0 : Dm (.pI S_sl20Rd)) (x1 : Dm (.imm S_HouHouse)) (x2 : Dm (.imm I)) : E_al g_ag p_ag g_a1 p_a1 g_ak p_ak k (x0, x1, x2, ()) =
  (bif (bif (decide ((0 : Int) <= x2)) then (decide (x2 < (List.length x1.2.2 : Int))) else false) then (r_al g_ag p_ag g_a1 p_a1 g_ak p_ak (x0, x1, x2, ()) k pt0 (h0_al x0 x1 x2 (0 : Int) (0 : Int) (0 : Int) (0 : Int) (0 : Int) (0 : Int) ((0 : Int), (0 : Int)) [] (rdL (e := S_BatBatch) x1.2.2 x2) x0)) else none) := by kernel_rfl
theorem rd0_al (k : Nat) (x0 : Dm (.pI S_sl20Rd)) (x1 : Dm (.imm S_HouHouse)) (x2 : Dm (.imm I)) (h0 : Dn I) (h1 : Dn I) (h2 : Dn I) (h3 : Dn I) (h4 : Dn I) (h5 : Dn I) (h6 : Dn S_DecDec) (h7 : (List (Dn S_SpcTest))) (h8 : Dn S_BatBatch) (h9 : Dn S_sl20Rd) : r_al g_ag p_ag g_a1 p_a1 g_ak p_ak (x0, x1, x2, ()) (k + 1) pt0 (h0_al x0 x1 x2 h0 h1 h2 h3 h4 h5 h6 h7 h8 h9) =
  (lt (rdL (e := S_TstTest) h8.2.2.1 h0) fun s1 => (lt (w64 (h0 + (1 : Int))) fun s0 => (bif (decide (h0 < (List.length h8.2.2.1 : Int))) then (bif (bif (decide ((0 : Int) <= h0)) then (decide (h0 < (List.length h8.2.2.1 : Int))) else false) then (bif (decide (s1.2.1 = (0 : Int))) then (cl (p_ag (h9, (s1.1, ()))) (g_ag (h9, (s1.1, ()))) fun y0 => (bif (decide ((0 : Int) < (4 : Int))) then (some (((0 : Int), ((4 : Int), (x2, (s1.1.1, ((0 : Int), (y0.1, [])))))), (y0.2.1, ()))) else (r_al g_ag p_ag g_a1 p_a1 g_ak p_ak (x0, x1, x2, ()) k pt0 (h0_al x0 x1 x2 s0 h1 h2 h3 h4 h5 h6 h7 h8 (y0.2.1))))) else (bif (decide (s1.2.1 = (1 : Int))) then (cl (p_a1 (h9, ((5 : Int), ()))) (g_a1 (h9, ((5 : Int), ()))) fun y1 => (bif (bif (decide ((0 : Int) <= y1.1)) then (decide (y1.1 < (List.length [(1 : Int), (2 : Int), (1 : Int), (2 : Int), (3 : Int)] : Int))) else false) then (bif (decide ((0 : Int) < (5 : Int))) then (some (((0 : Int), ((5 : Int), (x2, (s1.1.1, ((rdL (e := I) [(1 : Int), (2 : Int), (1 : Int), (2 : Int), (3 : Int)] y1.1), (((0 : Int), (0 : Int)), [])))))), (y1.2.1, ()))) else (r_al g_ag p_ag g_a1 p_a1 g_ak p_ak (x0, x1, x2, ()) k pt0 (h0_al x0 x1 x2 s0 h1 h2 h3 h4 h5 h6 h7 h8 (y1.2.1)))) else none)) else (bif (decide (s1.2.1 = (2 : Int))) then (cl (p_ag (h9, (s1.1, ()))) (g_ag (h9, (s1.1, ()))) fun y2 => (bif (decide ((0 : Int) < (6 : Int))) then (some (((0 : Int), ((6 : Int), (x2, (s1.1.1, ((0 : Int), (y2.1, [])))))), (y2.2.1, ()))) else (r_al g_ag p_ag g_a1 p_a1 g_ak p_ak (x0, x1, x2, ()) k pt0 (h0_al x0 x1 x2 s0 h1 h2 h3 h4 h5 h6 h7 h8 (y2.2.1))))) else (bif (decide ((0 : Int) < (0 : Int))) then (some (((0 : Int), ((0 : Int), (x2, (s1.1.1, ((0 : Int), (((0 : Int), (0 : Int)), [])))))), (h9, ()))) else (r_al g_ag p_ag g_a1 p_a1 g_ak p_ak (x0, x1, x2, ()) k pt0 (h0_al x0 x1 x2 s0 h1 h2 h3 h4 h5 h6 h7 h8 h9)))))) else none) else (r_al g_ag p_ag g_a1 p_a1 g_ak p_ak (x0, x1, x2, ()) k pt2 (h1_al x0 x1 x2 (0 : Int) h1 h2 h3 h4 h5 h6 h7 h8 h9))))) := by kernel_rfl
theorem rd1_al (k : Nat) (x0 : Dm (.pI S_sl20Rd)) (x1 : Dm (.imm S_HouHouse)) (x2 : Dm (.imm I)) (h0 : Dn I) (h1 : Dn I) (h2 : Dn I) (h3 : Dn I) (h4 : Dn I) (h5 : Dn I) (h6 : Dn S_DecDec) (h7 : (List (Dn S_SpcTest))) (h8 : Dn S_BatBatch) (h9 : Dn S_sl20Rd) : r_al g_ag p_ag g_a1 p_a1 g_ak p_ak (x0, x1, x2, ()) (k + 1) pt2 (h1_al x0 x1 x2 h0 h1 h2 h3 h4 h5 h6 h7 h8 h9) =
  (bif (decide (h0 < (List.length h8.2.2.2.2.2 : Int))) then (bif (bif (decide ((0 : Int) <= h0)) then (decide (h0 < (List.length h8.2.2.2.2.2 : Int))) else false) then (bif (rdL (e := Sh.bool) h8.2.2.2.2.2 h0) then (some (((0 : Int), ((8 : Int), (x2, ((0 : Int), (h0, (((0 : Int), (0 : Int)), [])))))), (h9, ()))) else (r_al g_ag p_ag g_a1 p_a1 g_ak p_ak (x0, x1, x2, ()) k pt2 (h1_al x0 x1 x2 (w64 (h0 + (1 : Int))) h1 h2 h3 h4 h5 h6 h7 h8 h9))) else none) else (bif (decide (h8.2.2.2.1 = (2 : Int))) then (some (((0 : Int), ((12 : Int), (x2, ((0 : Int), ((0 : Int), (((0 : Int), (0 : Int)), [])))))), (h9, ()))) else (cl (p_ak (h8, ())) (g_ak (h8, ())) fun y0 => (bif y0.1 then (some (((0 : Int), ((10 : Int), (x2, ((0 : Int), ((0 : Int), (((0 : Int), (0 : Int)), [])))))), (h9, ()))) else (some (((0 : Int), ((9 : Int), (x2, ((0 : Int), ((0 : Int), (((0 : Int), (0 : Int)), [])))))), (h9, ()))))))) := by kernel_rfl
theorem S_al (h_ag : C_ag p_ag g_ag) (h_a1 : C_a1 p_a1 g_a1) (h_ak : C_ak p_ak g_ak) {pre : In_al -> Bool} {fn : In_al -> Out_al} (hev : ∀ x, pre x = true -> ∃ k, E_al g_ag p_ag g_a1 p_a1 g_ak p_ak k x = some (fn x)) : C_al pre fn := sound tysOk mixed (fn := Tryz.f173) rfl rfl rfl (.cons h_ag (.cons h_a1 (.cons h_ak .nil))) _ hev
end
/-! am: sReqMay -/
abbrev M_am : List Vm.Mode := [.imm I, .imm I]
abbrev R_am : List (RK × Sh) := [(.imm, .bool)]
abbrev In_am : Type := (insSh M_am).den
abbrev Out_am : Type := (outSh R_am M_am).den
abbrev C_am (pre : In_am -> Bool) (fn : In_am -> Out_am) : Prop := Sound Tryz.prog 132 ⟨M_am, R_am, pre, fn⟩
abbrev X_am : Ctx := ctx tys 45 (conOf []) (keepOf []) (fun _ => [])
noncomputable abbrev E_am (k : Nat) (x : In_am) : Option Out_am := evFn X_am Tryz.f132 R_am M_am k x
theorem ev_am (k : Nat) (x0 : Dm (.imm I)) (x1 : Dm (.imm I)) : E_am k (x0, x1, ()) =
  (bif (decide (x1 = (1 : Int))) then (some ((decide (x0 = (4 : Int))), ())) else (bif (decide (x1 = (2 : Int))) then (some ((decide (x0 = (4 : Int))), ())) else (bif (decide (x1 = (3 : Int))) then (bif (decide (x0 = (1 : Int))) then (some (true, ())) else (some ((decide (x0 = (2 : Int))), ()))) else (bif (decide (x1 = (4 : Int))) then (bif (decide (x0 = (1 : Int))) then (some (true, ())) else (some ((decide (x0 = (2 : Int))), ()))) else (bif (decide (x1 = (6 : Int))) then (bif (decide (x0 = (1 : Int))) then (some (true, ())) else (some ((decide (x0 = (2 : Int))), ()))) else (bif (decide (x1 = (7 : Int))) then (bif (decide (x0 = (1 : Int))) then (some (true, ())) else (some ((decide (x0 = (2 : Int))), ()))) else (bif (decide (x1 = (5 : Int))) then (bif (decide (x0 = (2 : Int))) then (some (true, ())) else (some ((decide (x0 = (3 : Int))), ()))) else (bif (decide (x1 = (8 : Int))) then (bif (decide (x0 = (2 : Int))) then (some (true, ())) else (some ((decide (x0 = (3 : Int))), ()))) else (bif (decide (x1 = (9 : Int))) then (bif (decide (x0 = (2 : Int))) then (some (true, ())) else (some ((decide (x0 = (3 : Int))), ()))) else (bif (decide (x1 = (10 : Int))) then (some ((decide (x0 = (3 : Int))), ())) else (bif (decide (x1 = (11 : Int))) then (some ((decide (x0 = (3 : Int))), ())) else (bif (decide (x1 = (12 : Int))) then (some ((decide (x0 = (3 : Int))), ())) else (some (false, ())))))))))))))) := by kernel_rfl
theorem S_am  {pre : In_am -> Bool} {fn : In_am -> Out_am} (hev : ∀ x, pre x = true -> ∃ k, E_am k x = some (fn x)) : C_am pre fn := sound tysOk mixed (fn := Tryz.f132) rfl rfl rfl ConsOk.nil _ hev
/-! an: sl21Who -/
abbrev M_an : List Vm.Mode := [.pI S_sl20Rd, .imm L_int, .imm I]
abbrev R_an : List (RK × Sh) := [(.imm, I)]
abbrev In_an : Type := (insSh M_an).den
abbrev Out_an : Type := (outSh R_an M_an).den
abbrev C_an (pre : In_an -> Bool) (fn : In_an -> Out_an) : Prop := Sound Tryz.prog 174 ⟨M_an, R_an, pre, fn⟩
section
variable (g_a1 : In_a1 -> Out_a1) (p_a1 : In_a1 -> Bool) (g_am : In_am -> Out_am)
abbrev X_an : Ctx := ctx tys 35 (conOf [(58, ⟨M_a1, R_a1, p_a1, g_a1⟩), (132, ⟨M_am, R_am, fun _ => true, g_am⟩)]) (keepOf [(pt0, (⟨[(0, .asis), (1, .asis), (2, .asis), (7, .asis), (8, .asis)], [(5000, .asis)], []⟩ : Keep))]) (fun _ => [])
noncomputable abbrev E_an (k : Nat) (x : In_an) : Option Out_an := evFn (X_an g_a1 p_a1 g_am) Tryz.f174 R_an M_an k x
def h0_an (x0 : Dm (.pI S_sl20Rd)) (x1 : Dm (.imm L_int)) (x2 : Dm (.imm I)) (h0 : Dn I) (h1 : Dn I) (h2 : Dn S_sl20Rd) : St := mkS [(0, (AV.ptr 5000 none [])), (1, (AV.val L_int x1)), (2, (AV.val I x2)), (7, (AV.val I h0)), (8, (AV.val I h1))] [(5000, (Ob.box S_sl20Rd (AV.val S_sl20Rd h2)))]
noncomputable def r_an (x : In_an) (k : Nat) (p : List Bool) (s : St) : Option Out_an := rounds (X_an g_a1 p_a1 g_am) Tryz.f174 R_an M_an x k p s
variable {g_a1 p_a1 g_am}
theorem ev_an (k : Nat) (x0 : Dm (.pI S_sl20Rd)) (x1 : Dm (.imm L_int)) (x2 : Dm (.imm I)) : E_an g_a1 p_a1 g_am k (x0, x1, x2, ()) =
  (cl (p_a1 (x0, ((w64 ((List.length x1 : Int) + (1 : Int))), ()))) (g_a1 (x0, ((w64 ((List.length x1 : Int) + (1 : Int))), ()))) fun y0 => (r_an g_a1 p_a1 g_am (x0, x1, x2, ()) k pt0 (h0_an x0 x1 x2 (y0.1) (0 : Int) (y0.2.1)))) := by kernel_rfl
theorem rd0_an (k : Nat) (x0 : Dm (.pI S_sl20Rd)) (x1 : Dm (.imm L_int)) (x2 : Dm (.imm I)) (h0 : Dn I) (h1 : Dn I) (h2 : Dn S_sl20Rd) : r_an g_a1 p_a1 g_am (x0, x1, x2, ()) (k + 1) pt0 (h0_an x0 x1 x2 h0 h1 h2) =
  (bif (decide (h1 < (List.length x1 : Int))) then (bif (bif (decide ((List.length x1 : Int) = (0 : Int))) then false else true) then (bif (bif (decide ((0 : Int) <= (Int.tmod (w64 (h0 + h1)) (List.length x1 : Int)))) then (decide ((Int.tmod (w64 (h0 + h1)) (List.length x1 : Int)) < (List.length x1 : Int))) else false) then (bif (g_am ((rdL (e := I) x1 (Int.tmod (w64 (h0 + h1)) (List.length x1 : Int))), (x2, ()))).1 then (some ((w64 ((Int.tmod (w64 (h0 + h1)) (List.length x1 : Int)) + (1 : Int))), (h2, ()))) else (r_an g_a1 p_a1 g_am (x0, x1, x2, ()) k pt0 (h0_an x0 x1 x2 h0 (w64 (h1 + (1 : Int))) h2))) else none) else none) else (some ((1 : Int), (h2, ())))) := by kernel_rfl
theorem S_an (h_a1 : C_a1 p_a1 g_a1) (h_am : C_am (fun _ => true) g_am) {pre : In_an -> Bool} {fn : In_an -> Out_an} (hev : ∀ x, pre x = true -> ∃ k, E_an g_a1 p_a1 g_am k x = some (fn x)) : C_an pre fn := sound tysOk mixed (fn := Tryz.f174) rfl rfl rfl (.cons h_a1 (.cons h_am .nil)) _ hev
end
/-! ao: sl21Req -/
abbrev M_ao : List Vm.Mode := [.pI S_sl20Rd, .imm S_HouHouse]
abbrev R_ao : List (RK × Sh) := [(.imm, S_ReqReq)]
abbrev In_ao : Type := (insSh M_ao).den
abbrev Out_ao : Type := (outSh R_ao M_ao).den
abbrev C_ao (pre : In_ao -> Bool) (fn : In_ao -> Out_ao) : Prop := Sound Tryz.prog 119 ⟨M_ao, R_ao, pre, fn⟩
section
variable (g_a1 : In_a1 -> Out_a1) (p_a1 : In_a1 -> Bool) (g_a8 : In_a8 -> Out_a8) (p_a8 : In_a8 -> Bool) (g_a9 : In_a9 -> Out_a9) (p_a9 : In_a9 -> Bool) (g_aa : In_aa -> Out_aa) (g_al : In_al -> Out_al) (p_al : In_al -> Bool) (g_an : In_an -> Out_an) (p_an : In_an -> Bool)
abbrev X_ao : Ctx := ctx tys 96 (conOf [(58, ⟨M_a1, R_a1, p_a1, g_a1⟩), (121, ⟨M_a8, R_a8, p_a8, g_a8⟩), (172, ⟨M_a9, R_a9, p_a9, g_a9⟩), (68, ⟨M_aa, R_aa, fun _ => true, g_aa⟩), (173, ⟨M_al, R_al, p_al, g_al⟩), (174, ⟨M_an, R_an, p_an, g_an⟩)]) (keepOf []) (fun _ => [])
noncomputable abbrev E_ao (k : Nat) (x : In_ao) : Option Out_ao := evFn (X_ao g_a1 p_a1 g_a8 p_a8 g_a9 p_a9 g_aa g_al p_al g_an p_an) Tryz.f119 R_ao M_ao k x
variable {g_a1 p_a1 g_a8 p_a8 g_a9 p_a9 g_aa g_al p_al g_an p_an}
theorem ev_ao (k : Nat) (x0 : Dm (.pI S_sl20Rd)) (x1 : Dm (.imm S_HouHouse)) : E_ao g_a1 p_a1 g_a8 p_a8 g_a9 p_a9 g_aa g_al p_al g_an p_an k (x0, x1, ()) =
  (bif (decide ((List.length x1.2.1 : Int) = (0 : Int))) then (cl (p_a8 (x0, ((9999 : Int), ()))) (g_a8 (x0, ((9999 : Int), ()))) fun y0 => (cl (p_an (y0.2.1, (x1.1, ((1 : Int), ())))) (g_an (y0.2.1, (x1.1, ((1 : Int), ())))) fun y1 => (cl (p_a1 (y1.2.1, ((12 : Int), ()))) (g_a1 (y1.2.1, ((12 : Int), ()))) fun y2 => (bif (decide (y2.1 = (0 : Int))) then (cl (p_a1 (y2.2.1, ((5 : Int), ()))) (g_a1 (y2.2.1, ((5 : Int), ()))) fun y3 => (some (((w64 ((1 : Int) + y3.1)), ((1 : Int), ((0 : Int), ((0 : Int), ((0 : Int), (((0 : Int), (0 : Int)), y0.1)))))), (y3.2.1, ())))) else (some ((y1.1, ((1 : Int), ((0 : Int), ((0 : Int), ((0 : Int), (((0 : Int), (0 : Int)), y0.1)))))), (y2.2.1, ()))))))) else (cl (p_a1 (x0, ((12 : Int), ()))) (g_a1 (x0, ((12 : Int), ()))) fun y4 => (bif (decide (y4.1 = (0 : Int))) then (cl (p_a8 (y4.2.1, ((9999 : Int), ()))) (g_a8 (y4.2.1, ((9999 : Int), ()))) fun y5 => (cl (p_an (y5.2.1, (x1.1, ((1 : Int), ())))) (g_an (y5.2.1, (x1.1, ((1 : Int), ())))) fun y6 => (cl (p_a1 (y6.2.1, ((12 : Int), ()))) (g_a1 (y6.2.1, ((12 : Int), ()))) fun y7 => (bif (decide (y7.1 = (0 : Int))) then (cl (p_a1 (y7.2.1, ((5 : Int), ()))) (g_a1 (y7.2.1, ((5 : Int), ()))) fun y8 => (some (((w64 ((1 : Int) + y8.1)), ((1 : Int), ((0 : Int), ((0 : Int), ((0 : Int), (((0 : Int), (0 : Int)), y5.1)))))), (y8.2.1, ())))) else (some ((y6.1, ((1 : Int), ((0 : Int), ((0 : Int), ((0 : Int), (((0 : Int), (0 : Int)), y5.1)))))), (y7.2.1, ()))))))) else (cl (p_a9 (x1.2.1, ())) (g_a9 (x1.2.1, ())) fun y9 => (bif (decide (y9.1 < (0 : Int))) then (cl (p_a1 (y4.2.1, ((w64 ((List.length x1.2.1 : Int) + (1 : Int))), ()))) (g_a1 (y4.2.1, ((w64 ((List.length x1.2.1 : Int) + (1 : Int))), ()))) fun y10 => (cl (p_an (y10.2.1, (x1.1, ((2 : Int), ())))) (g_an (y10.2.1, (x1.1, ((2 : Int), ())))) fun y11 => (cl (p_a1 (y11.2.1, ((12 : Int), ()))) (g_a1 (y11.2.1, ((12 : Int), ()))) fun y12 => (bif (decide (y12.1 = (0 : Int))) then (cl (p_a1 (y12.2.1, ((5 : Int), ()))) (g_a1 (y12.2.1, ((5 : Int), ()))) fun y13 => (some (((w64 ((1 : Int) + y13.1)), ((2 : Int), ((0 : Int), ((0 : Int), (y10.1, (((0 : Int), (0 : Int)), [])))))), (y13.2.1, ())))) else (some ((y11.1, ((2 : Int), ((0 : Int), ((0 : Int), (y10.1, (((0 : Int), (0 : Int)), [])))))), (y12.2.1, ()))))))) else (cl (p_a1 (y4.2.1, ((14 : Int), ()))) (g_a1 (y4.2.1, ((14 : Int), ()))) fun y14 => (bif (decide (y14.1 = (0 : Int))) then (cl (p_a1 (y14.2.1, ((w64 ((List.length x1.2.1 : Int) + (1 : Int))), ()))) (g_a1 (y14.2.1, ((w64 ((List.length x1.2.1 : Int) + (1 : Int))), ()))) fun y15 => (cl (p_an (y15.2.1, (x1.1, ((2 : Int), ())))) (g_an (y15.2.1, (x1.1, ((2 : Int), ())))) fun y16 => (cl (p_a1 (y16.2.1, ((12 : Int), ()))) (g_a1 (y16.2.1, ((12 : Int), ()))) fun y17 => (bif (decide (y17.1 = (0 : Int))) then (cl (p_a1 (y17.2.1, ((5 : Int), ()))) (g_a1 (y17.2.1, ((5 : Int), ()))) fun y18 => (some (((w64 ((1 : Int) + y18.1)), ((2 : Int), ((0 : Int), ((0 : Int), (y15.1, (((0 : Int), (0 : Int)), [])))))), (y18.2.1, ())))) else (some ((y16.1, ((2 : Int), ((0 : Int), ((0 : Int), (y15.1, (((0 : Int), (0 : Int)), [])))))), (y17.2.1, ()))))))) else (bif (decide ((List.length x1.2.2 : Int) = (0 : Int))) then (cl (p_a1 (y14.2.1, ((4 : Int), ()))) (g_a1 (y14.2.1, ((4 : Int), ()))) fun y19 => (bif (bif (decide ((0 : Int) <= y19.1)) then (decide (y19.1 < (List.length [(1 : Int), (9 : Int), (100 : Int), (0 : Int)] : Int))) else false) then (cl (p_an (y19.2.1, (x1.1, ((3 : Int), ())))) (g_an (y19.2.1, (x1.1, ((3 : Int), ())))) fun y20 => (cl (p_a1 (y20.2.1, ((12 : Int), ()))) (g_a1 (y20.2.1, ((12 : Int), ()))) fun y21 => (bif (decide (y21.1 = (0 : Int))) then (cl (p_a1 (y21.2.1, ((5 : Int), ()))) (g_a1 (y21.2.1, ((5 : Int), ()))) fun y22 => (some (((w64 ((1 : Int) + y22.1)), ((3 : Int), ((0 : Int), ((0 : Int), ((rdL (e := I) [(1 : Int), (9 : Int), (100 : Int), (0 : Int)] y19.1), (((0 : Int), (0 : Int)), [])))))), (y22.2.1, ())))) else (some ((y20.1, ((3 : Int), ((0 : Int), ((0 : Int), ((rdL (e := I) [(1 : Int), (9 : Int), (100 : Int), (0 : Int)] y19.1), (((0 : Int), (0 : Int)), [])))))), (y21.2.1, ())))))) else none)) else (cl (p_a1 (y14.2.1, ((12 : Int), ()))) (g_a1 (y14.2.1, ((12 : Int), ()))) fun y23 => (bif (decide (y23.1 = (0 : Int))) then (cl (p_a1 (y23.2.1, ((4 : Int), ()))) (g_a1 (y23.2.1, ((4 : Int), ()))) fun y24 => (bif (bif (decide ((0 : Int) <= y24.1)) then (decide (y24.1 < (List.length [(1 : Int), (9 : Int), (100 : Int), (0 : Int)] : Int))) else false) then (cl (p_an (y24.2.1, (x1.1, ((3 : Int), ())))) (g_an (y24.2.1, (x1.1, ((3 : Int), ())))) fun y25 => (cl (p_a1 (y25.2.1, ((12 : Int), ()))) (g_a1 (y25.2.1, ((12 : Int), ()))) fun y26 => (bif (decide (y26.1 = (0 : Int))) then (cl (p_a1 (y26.2.1, ((5 : Int), ()))) (g_a1 (y26.2.1, ((5 : Int), ()))) fun y27 => (some (((w64 ((1 : Int) + y27.1)), ((3 : Int), ((0 : Int), ((0 : Int), ((rdL (e := I) [(1 : Int), (9 : Int), (100 : Int), (0 : Int)] y24.1), (((0 : Int), (0 : Int)), [])))))), (y27.2.1, ())))) else (some ((y25.1, ((3 : Int), ((0 : Int), ((0 : Int), ((rdL (e := I) [(1 : Int), (9 : Int), (100 : Int), (0 : Int)] y24.1), (((0 : Int), (0 : Int)), [])))))), (y26.2.1, ())))))) else none)) else (cl (p_a1 (y23.2.1, ((9 : Int), ()))) (g_a1 (y23.2.1, ((9 : Int), ()))) fun y28 => (bif (decide (y28.1 = (0 : Int))) then (cl (p_a1 (y28.2.1, ((9 : Int), ()))) (g_a1 (y28.2.1, ((9 : Int), ()))) fun y29 => (cl (p_a1 (y29.2.1, ((w64 ((List.length x1.2.2 : Int) + (1 : Int))), ()))) (g_a1 (y29.2.1, ((w64 ((List.length x1.2.2 : Int) + (1 : Int))), ()))) fun y30 => (cl (p_a1 (y30.2.1, ((4 : Int), ()))) (g_a1 (y30.2.1, ((4 : Int), ()))) fun y31 => (cl (p_a1 (y31.2.1, ((3 : Int), ()))) (g_a1 (y31.2.1, ((3 : Int), ()))) fun y32 => (cl (p_an (y32.2.1, (x1.1, ((g_aa (((0 : Int), ((w64 ((4 : Int) + y29.1)), (y30.1, ((w64 ((1 : Int) + y31.1)), (y32.1, (((12 : Int), (1 : Int)), [])))))), ())).1.2.1, ())))) (g_an (y32.2.1, (x1.1, ((g_aa (((0 : Int), ((w64 ((4 : Int) + y29.1)), (y30.1, ((w64 ((1 : Int) + y31.1)), (y32.1, (((12 : Int), (1 : Int)), [])))))), ())).1.2.1, ())))) fun y33 => (cl (p_a1 (y33.2.1, ((12 : Int), ()))) (g_a1 (y33.2.1, ((12 : Int), ()))) fun y34 => (bif (decide (y34.1 = (0 : Int))) then (cl (p_a1 (y34.2.1, ((5 : Int), ()))) (g_a1 (y34.2.1, ((5 : Int), ()))) fun y35 => (some (((w64 ((1 : Int) + y35.1)), (g_aa (((0 : Int), ((w64 ((4 : Int) + y29.1)), (y30.1, ((w64 ((1 : Int) + y31.1)), (y32.1, (((12 : Int), (1 : Int)), [])))))), ())).1.2), (y35.2.1, ())))) else (some ((y33.1, (g_aa (((0 : Int), ((w64 ((4 : Int) + y29.1)), (y30.1, ((w64 ((1 : Int) + y31.1)), (y32.1, (((12 : Int), (1 : Int)), [])))))), ())).1.2), (y34.2.1, ())))))))))) else (cl (p_a1 (y28.2.1, ((List.length x1.2.2 : Int), ()))) (g_a1 (y28.2.1, ((List.length x1.2.2 : Int), ()))) fun y36 => (cl (p_al (y36.2.1, (x1, (y36.1, ())))) (g_al (y36.2.1, (x1, (y36.1, ())))) fun y37 => (cl (p_an (y37.2.1, (x1.1, (y37.1.2.1, ())))) (g_an (y37.2.1, (x1.1, (y37.1.2.1, ())))) fun y38 => (cl (p_a1 (y38.2.1, ((12 : Int), ()))) (g_a1 (y38.2.1, ((12 : Int), ()))) fun y39 => (bif (decide (y39.1 = (0 : Int))) then (cl (p_a1 (y39.2.1, ((5 : Int), ()))) (g_a1 (y39.2.1, ((5 : Int), ()))) fun y40 => (some (((w64 ((1 : Int) + y40.1)), y37.1.2), (y40.2.1, ())))) else (some ((y38.1, y37.1.2), (y39.2.1, ())))))))))))))))))))) := by kernel_rfl
theorem S_ao (h_a1 : C_a1 p_a1 g_a1) (h_a8 : C_a8 p_a8 g_a8) (h_a9 : C_a9 p_a9 g_a9) (h_aa : C_aa (fun _ => true) g_aa) (h_al : C_al p_al g_al) (h_an : C_an p_an g_an) {pre : In_ao -> Bool} {fn : In_ao -> Out_ao} (hev : ∀ x, pre x = true -> ∃ k, E_ao g_a1 p_a1 g_a8 p_a8 g_a9 p_a9 g_aa g_al p_al g_an p_an k x = some (fn x)) : C_ao pre fn := sound tysOk mixed (fn := Tryz.f119) rfl rfl rfl (.cons h_a1 (.cons h_a8 (.cons h_a9 (.cons h_aa (.cons h_al (.cons h_an .nil)))))) _ hev
end
/-! ap: sl3Copy -/
abbrev M_ap : List Vm.Mode := [.imm L_SpcSpec]
abbrev R_ap : List (RK × Sh) := [(.own, L_SpcSpec)]
abbrev In_ap : Type := (insSh M_ap).den
abbrev Out_ap : Type := (outSh R_ap M_ap).den
abbrev C_ap (pre : In_ap -> Bool) (fn : In_ap -> Out_ap) : Prop := Sound Tryz.prog 136 ⟨M_ap, R_ap, pre, fn⟩
abbrev X_ap : Ctx := ctx tys 29 (conOf []) (keepOf [(pt0, (⟨[(0, .asis), (3, .own), (4, .asis)], [], []⟩ : Keep))]) (fun _ => [])
noncomputable abbrev E_ap (k : Nat) (x : In_ap) : Option Out_ap := evFn X_ap Tryz.f136 R_ap M_ap k x
def h0_ap (x0 : Dm (.imm L_SpcSpec)) (h0 : Dn I) (h1 : (List (Dn S_SpcSpec))) : St := mkS [(0, (AV.val L_SpcSpec x0)), (3, (AV.sref 2503 none [])), (4, (AV.val I h0))] [(2503, (Ob.arr 83 S_SpcSpec h1))]
noncomputable def r_ap (x : In_ap) (k : Nat) (p : List Bool) (s : St) : Option Out_ap := rounds X_ap Tryz.f136 R_ap M_ap x k p s
theorem ev_ap (k : Nat) (x0 : Dm (.imm L_SpcSpec)) : E_ap k (x0, ()) =
  (r_ap  (x0, ()) k pt0 (h0_ap x0 (0 : Int) [])) := by kernel_rfl
theorem rd0_ap (k : Nat) (x0 : Dm (.imm L_SpcSpec)) (h0 : Dn I) (h1 : (List (Dn S_SpcSpec))) : r_ap  (x0, ()) (k + 1) pt0 (h0_ap x0 h0 h1) =
  (bif (decide (h0 < (List.length x0 : Int))) then (bif (bif (decide ((0 : Int) <= h0)) then (decide (h0 < (List.length x0 : Int))) else false) then (bif (fitL [] (rdL (e := S_SpcSpec) x0 h0).1) then (bif (bif (decide ((0 : Int) <= h0)) then (decide (h0 < (List.length x0 : Int))) else false) then (bif (fitL h1 [((List.append [] (rdL (e := S_SpcSpec) x0 h0).1), (rdL (e := S_SpcSpec) x0 h0).2)]) then (r_ap  (x0, ()) k pt0 (h0_ap x0 (w64 (h0 + (1 : Int))) (List.append h1 [((List.append [] (rdL (e := S_SpcSpec) x0 h0).1), (rdL (e := S_SpcSpec) x0 h0).2)]))) else none) else none) else none) else none) else (some (h1, ()))) := by kernel_rfl
theorem S_ap  {pre : In_ap -> Bool} {fn : In_ap -> Out_ap} (hev : ∀ x, pre x = true -> ∃ k, E_ap k x = some (fn x)) : C_ap pre fn := sound tysOk mixed (fn := Tryz.f136) rfl rfl rfl ConsOk.nil _ hev
/-! aq: sl5Copy -/
abbrev M_aq : List Vm.Mode := [.imm S_TstTest]
abbrev R_aq : List (RK × Sh) := [(.own, S_TstTest)]
abbrev In_aq : Type := (insSh M_aq).den
abbrev Out_aq : Type := (outSh R_aq M_aq).den
abbrev C_aq (pre : In_aq -> Bool) (fn : In_aq -> Out_aq) : Prop := Sound Tryz.prog 152 ⟨M_aq, R_aq, pre, fn⟩
abbrev X_aq : Ctx := ctx tys 9 (conOf []) (keepOf []) (fun _ => [])
noncomputable abbrev E_aq (k : Nat) (x : In_aq) : Option Out_aq := evFn X_aq Tryz.f152 R_aq M_aq k x
theorem ev_aq (k : Nat) (x0 : Dm (.imm S_TstTest)) : E_aq k (x0, ()) =
  (bif (fitL [] x0.2.2.2.2) then (some ((x0.1, (x0.2.1, (x0.2.2.1, (x0.2.2.2.1, (List.append [] x0.2.2.2.2))))), ())) else none) := by kernel_rfl
theorem S_aq  {pre : In_aq -> Bool} {fn : In_aq -> Out_aq} (hev : ∀ x, pre x = true -> ∃ k, E_aq k x = some (fn x)) : C_aq pre fn := sound tysOk mixed (fn := Tryz.f152) rfl rfl rfl ConsOk.nil _ hev
/-! ar: sl6Copy -/
abbrev M_ar : List Vm.Mode := [.imm S_BatBatch]
abbrev R_ar : List (RK × Sh) := [(.own, S_BatBatch)]
abbrev In_ar : Type := (insSh M_ar).den
abbrev Out_ar : Type := (outSh R_ar M_ar).den
abbrev C_ar (pre : In_ar -> Bool) (fn : In_ar -> Out_ar) : Prop := Sound Tryz.prog 86 ⟨M_ar, R_ar, pre, fn⟩
section
variable (g_aq : In_aq -> Out_aq) (p_aq : In_aq -> Bool)
abbrev X_ar : Ctx := ctx tys 39 (conOf [(152, ⟨M_aq, R_aq, p_aq, g_aq⟩)]) (keepOf [(pt0, (⟨[(1, .asis), (2, .asis), (3, .asis), (4, .asis)], [(1, .asis), (2, (.pair .asis (.pair .asis (.pair .own (.pair .asis (.pair .own .own)))))), (3, (.pair .asis (.pair .asis (.pair .own (.pair .asis (.pair .own .own))))))], []⟩ : Keep))]) (fun _ => [])
noncomputable abbrev E_ar (k : Nat) (x : In_ar) : Option Out_ar := evFn (X_ar g_aq p_aq) Tryz.f86 R_ar M_ar k x
def h0_ar (x0 : Dm (.imm S_BatBatch)) (h0 : Dn I) (h1 : Dn I) (h2 : Dn I) (h3 : Dn I) (h4 : (List (Dn S_TstTest))) (h5 : (List (Dn S_BatSig))) (h6 : (List (Dn Sh.bool))) (h7 : (List (Dn S_TstTest))) (h8 : (List (Dn S_BatSig))) (h9 : (List (Dn Sh.bool))) : St := mkS [(1, (AV.ptr 1 none [])), (2, (AV.ptr 2 none [])), (3, (AV.ptr 3 none [])), (4, (AV.val I h0))] [(1, (Ob.box S_BatBatch (AV.val S_BatBatch x0))), (2, (Ob.box S_BatBatch (AV.pair (AV.val I h1) (AV.pair (AV.val I h2) (AV.pair (AV.sref 2502 none []) (AV.pair (AV.val I h3) (AV.pair (AV.sref 12502 none []) (AV.sref 22502 none [])))))))), (2502, (Ob.arr 56 S_TstTest h4)), (12502, (Ob.arr 58 S_BatSig h5)), (22502, (Ob.arr 4 Sh.bool h6)), (3, (Ob.box S_BatBatch (AV.pair (AV.val I x0.1) (AV.pair (AV.val I x0.2.1) (AV.pair (AV.sref 2503 none []) (AV.pair (AV.val I x0.2.2.2.1) (AV.pair (AV.sref 12503 none []) (AV.sref 22503 none [])))))))), (2503, (Ob.arr 56 S_TstTest h7)), (12503, (Ob.arr 58 S_BatSig h8)), (22503, (Ob.arr 4 Sh.bool h9))]
noncomputable def r_ar (x : In_ar) (k : Nat) (p : List Bool) (s : St) : Option Out_ar := rounds (X_ar g_aq p_aq) Tryz.f86 R_ar M_ar x k p s
variable {g_aq p_aq}
theorem ev_ar (k : Nat) (x0 : Dm (.imm S_BatBatch)) : E_ar g_aq p_aq k (x0, ()) =
  (bif (fitL [] x0.2.2.2.2.1) then (bif (fitL [] x0.2.2.2.2.2) then (r_ar g_aq p_aq (x0, ()) k pt0 (h0_ar x0 (0 : Int) (0 : Int) (0 : Int) (0 : Int) [] [] [] [] (List.append [] x0.2.2.2.2.1) (List.append [] x0.2.2.2.2.2))) else none) else none) := by kernel_rfl
theorem rd0_ar (k : Nat) (x0 : Dm (.imm S_BatBatch)) (h0 : Dn I) (h1 : Dn I) (h2 : Dn I) (h3 : Dn I) (h4 : (List (Dn S_TstTest))) (h5 : (List (Dn S_BatSig))) (h6 : (List (Dn Sh.bool))) (h7 : (List (Dn S_TstTest))) (h8 : (List (Dn S_BatSig))) (h9 : (List (Dn Sh.bool))) : r_ar g_aq p_aq (x0, ()) (k + 1) pt0 (h0_ar x0 h0 h1 h2 h3 h4 h5 h6 h7 h8 h9) =
  (bif (decide (h0 < (List.length x0.2.2.1 : Int))) then (bif (bif (decide ((0 : Int) <= h0)) then (decide (h0 < (List.length x0.2.2.1 : Int))) else false) then (cl (p_aq ((rdL (e := S_TstTest) x0.2.2.1 h0), ())) (g_aq ((rdL (e := S_TstTest) x0.2.2.1 h0), ())) fun y0 => (bif (fitL h7 [(y0.1)]) then (r_ar g_aq p_aq (x0, ()) k pt0 (h0_ar x0 (w64 (h0 + (1 : Int))) h1 h2 h3 h4 h5 h6 (List.append h7 [(y0.1)]) h8 h9)) else none)) else none) else (some ((x0.1, (x0.2.1, (h7, (x0.2.2.2.1, (h8, h9))))), ()))) := by kernel_rfl
theorem S_ar (h_aq : C_aq p_aq g_aq) {pre : In_ar -> Bool} {fn : In_ar -> Out_ar} (hev : ∀ x, pre x = true -> ∃ k, E_ar g_aq p_aq k x = some (fn x)) : C_ar pre fn := sound tysOk mixed (fn := Tryz.f86) rfl rfl rfl (.cons h_aq .nil) _ hev
end
/-! as: sl9Copy -/
abbrev M_as : List Vm.Mode := [.imm S_HouHouse]
abbrev R_as : List (RK × Sh) := [(.own, S_HouHouse)]
abbrev In_as : Type := (insSh M_as).den
abbrev Out_as : Type := (outSh R_as M_as).den
abbrev C_as (pre : In_as -> Bool) (fn : In_as -> Out_as) : Prop := Sound Tryz.prog 63 ⟨M_as, R_as, pre, fn⟩
section
variable (g_ap : In_ap -> Out_ap) (p_ap : In_ap -> Bool) (g_ar : In_ar -> Out_ar) (p_ar : In_ar -> Bool)
abbrev X_as : Ctx := ctx tys 32 (conOf [(136, ⟨M_ap, R_ap, p_ap, g_ap⟩), (86, ⟨M_ar, R_ar, p_ar, g_ar⟩)]) (keepOf [(pt0, (⟨[(1, .asis), (2, .asis), (3, .asis), (4, .asis)], [(1, .asis), (2, (.pair .own (.pair .own .own))), (3, (.pair .own (.pair .own .own)))], []⟩ : Keep))]) (fun _ => [])
noncomputable abbrev E_as (k : Nat) (x : In_as) : Option Out_as := evFn (X_as g_ap p_ap g_ar p_ar) Tryz.f63 R_as M_as k x
def h0_as (x0 : Dm (.imm S_HouHouse)) (h0 : Dn I) (h1 : (List (Dn I))) (h2 : (List (Dn S_SpcSpec))) (h3 : (List (Dn S_BatBatch))) (h4 : (List (Dn I))) (h5 : (List (Dn S_SpcSpec))) (h6 : (List (Dn S_BatBatch))) : St := mkS [(1, (AV.ptr 1 none [])), (2, (AV.ptr 2 none [])), (3, (AV.ptr 3 none [])), (4, (AV.val I h0))] [(1, (Ob.box S_HouHouse (AV.val S_HouHouse x0))), (2, (Ob.box S_HouHouse (AV.pair (AV.sref 2502 none []) (AV.pair (AV.sref 12502 none []) (AV.sref 22502 none []))))), (2502, (Ob.arr 3 I h1)), (12502, (Ob.arr 83 S_SpcSpec h2)), (22502, (Ob.arr 45 S_BatBatch h3)), (3, (Ob.box S_HouHouse (AV.pair (AV.sref 2503 none []) (AV.pair (AV.sref 12503 none []) (AV.sref 22503 none []))))), (2503, (Ob.arr 3 I h4)), (12503, (Ob.arr 83 S_SpcSpec h5)), (22503, (Ob.arr 45 S_BatBatch h6))]
noncomputable def r_as (x : In_as) (k : Nat) (p : List Bool) (s : St) : Option Out_as := rounds (X_as g_ap p_ap g_ar p_ar) Tryz.f63 R_as M_as x k p s
variable {g_ap p_ap g_ar p_ar}
theorem ev_as (k : Nat) (x0 : Dm (.imm S_HouHouse)) : E_as g_ap p_ap g_ar p_ar k (x0, ()) =
  (bif (fitL [] x0.1) then (cl (p_ap (x0.2.1, ())) (g_ap (x0.2.1, ())) fun y0 => (r_as g_ap p_ap g_ar p_ar (x0, ()) k pt0 (h0_as x0 (0 : Int) [] [] [] (List.append [] x0.1) (y0.1) []))) else none) := by kernel_rfl
theorem rd0_as (k : Nat) (x0 : Dm (.imm S_HouHouse)) (h0 : Dn I) (h1 : (List (Dn I))) (h2 : (List (Dn S_SpcSpec))) (h3 : (List (Dn S_BatBatch))) (h4 : (List (Dn I))) (h5 : (List (Dn S_SpcSpec))) (h6 : (List (Dn S_BatBatch))) : r_as g_ap p_ap g_ar p_ar (x0, ()) (k + 1) pt0 (h0_as x0 h0 h1 h2 h3 h4 h5 h6) =
  (bif (decide (h0 < (List.length x0.2.2 : Int))) then (bif (bif (decide ((0 : Int) <= h0)) then (decide (h0 < (List.length x0.2.2 : Int))) else false) then (cl (p_ar ((rdL (e := S_BatBatch) x0.2.2 h0), ())) (g_ar ((rdL (e := S_BatBatch) x0.2.2 h0), ())) fun y0 => (bif (fitL h6 [(y0.1)]) then (r_as g_ap p_ap g_ar p_ar (x0, ()) k pt0 (h0_as x0 (w64 (h0 + (1 : Int))) h1 h2 h3 h4 h5 (List.append h6 [(y0.1)]))) else none)) else none) else (some ((h4, (h5, h6)), ()))) := by kernel_rfl
theorem S_as (h_ap : C_ap p_ap g_ap) (h_ar : C_ar p_ar g_ar) {pre : In_as -> Bool} {fn : In_as -> Out_as} (hev : ∀ x, pre x = true -> ∃ k, E_as g_ap p_ap g_ar p_ar k x = some (fn x)) : C_as pre fn := sound tysOk mixed (fn := Tryz.f63) rfl rfl rfl (.cons h_ap (.cons h_ar .nil)) _ hev
end
/-! at: sDecCmp -/
abbrev M_at : List Vm.Mode := [.imm S_DecDec, .imm S_DecDec]
abbrev R_at : List (RK × Sh) := [(.imm, I)]
abbrev In_at : Type := (insSh M_at).den
abbrev Out_at : Type := (outSh R_at M_at).den
abbrev C_at (pre : In_at -> Bool) (fn : In_at -> Out_at) : Prop := Sound Tryz.prog 186 ⟨M_at, R_at, pre, fn⟩
section
variable (g_ab : In_ab -> Out_ab) (g_ad : In_ad -> Out_ad) (p_ad : In_ad -> Bool)
abbrev X_at : Ctx := ctx tys 29 (conOf [(69, ⟨M_ab, R_ab, fun _ => true, g_ab⟩), (192, ⟨M_ad, R_ad, p_ad, g_ad⟩)]) (keepOf []) (fun _ => [])
noncomputable abbrev E_at (k : Nat) (x : In_at) : Option Out_at := evFn (X_at g_ab g_ad p_ad) Tryz.f186 R_at M_at k x
variable {g_ab g_ad p_ad}
theorem ev_at (k : Nat) (x0 : Dm (.imm S_DecDec)) (x1 : Dm (.imm S_DecDec)) : E_at g_ab g_ad p_ad k (x0, x1, ()) =
  (bif (bif (g_ab (x0, ())).1 then false else true) then (some ((0 : Int), ())) else (bif (bif (g_ab (x1, ())).1 then false else true) then (some ((0 : Int), ())) else (bif (p_ad (x0, ((3 : Int), ()))) then (bif (p_ad (x1, ((3 : Int), ()))) then (bif (decide ((g_ad (x0, ((3 : Int), ()))).1.1 < (g_ad (x1, ((3 : Int), ()))).1.1)) then (some ((-1 : Int), ())) else (bif (decide ((g_ad (x1, ((3 : Int), ()))).1.1 < (g_ad (x0, ((3 : Int), ()))).1.1)) then (some ((1 : Int), ())) else (some ((0 : Int), ())))) else none) else none))) := by kernel_rfl
theorem S_at (h_ab : C_ab (fun _ => true) g_ab) (h_ad : C_ad p_ad g_ad) {pre : In_at -> Bool} {fn : In_at -> Out_at} (hev : ∀ x, pre x = true -> ∃ k, E_at g_ab g_ad p_ad k x = some (fn x)) : C_at pre fn := sound tysOk mixed (fn := Tryz.f186) rfl rfl rfl (.cons h_ab (.cons h_ad .nil)) _ hev
end
/-! au: sl3Test -/
abbrev M_au : List Vm.Mode := [.imm S_SpcTest]
abbrev R_au : List (RK × Sh) := [(.imm, .bool)]
abbrev In_au : Type := (insSh M_au).den
abbrev Out_au : Type := (outSh R_au M_au).den
abbrev C_au (pre : In_au -> Bool) (fn : In_au -> Out_au) : Prop := Sound Tryz.prog 139 ⟨M_au, R_au, pre, fn⟩
section
variable (g_a3 : In_a3 -> Out_a3) (g_ab : In_ab -> Out_ab) (g_at : In_at -> Out_at)
abbrev X_au : Ctx := ctx tys 29 (conOf [(66, ⟨M_a3, R_a3, fun _ => true, g_a3⟩), (69, ⟨M_ab, R_ab, fun _ => true, g_ab⟩), (186, ⟨M_at, R_at, fun _ => true, g_at⟩)]) (keepOf []) (fun _ => [])
noncomputable abbrev E_au (k : Nat) (x : In_au) : Option Out_au := evFn (X_au g_a3 g_ab g_at) Tryz.f139 R_au M_au k x
variable {g_a3 g_ab g_at}
theorem ev_au (k : Nat) (x0 : Dm (.imm S_SpcTest)) : E_au g_a3 g_ab g_at k (x0, ()) =
  (bif (g_a3 (x0.1, ((1 : Int), ((4 : Int), ())))).1 then (bif (g_ab (x0.2.1, ())).1 then (bif (g_ab (x0.2.2.1, ())).1 then (bif (decide ((g_at (x0.2.1, (x0.2.2.1, ()))).1 <= (0 : Int))) then (some ((g_a3 (x0.2.2.2, ((0 : Int), ((3 : Int), ())))).1, ())) else (some (false, ()))) else (some (false, ()))) else (some (false, ()))) else (some (false, ()))) := by kernel_rfl
theorem S_au (h_a3 : C_a3 (fun _ => true) g_a3) (h_ab : C_ab (fun _ => true) g_ab) (h_at : C_at (fun _ => true) g_at) {pre : In_au -> Bool} {fn : In_au -> Out_au} (hev : ∀ x, pre x = true -> ∃ k, E_au g_a3 g_ab g_at k x = some (fn x)) : C_au pre fn := sound tysOk mixed (fn := Tryz.f139) rfl rfl rfl (.cons h_a3 (.cons h_ab (.cons h_at .nil))) _ hev
end
/-! av: sSpcTestsOk -/
abbrev M_av : List Vm.Mode := [.imm L_SpcTest]
abbrev R_av : List (RK × Sh) := [(.imm, .bool)]
abbrev In_av : Type := (insSh M_av).den
abbrev Out_av : Type := (outSh R_av M_av).den
abbrev C_av (pre : In_av -> Bool) (fn : In_av -> Out_av) : Prop := Sound Tryz.prog 70 ⟨M_av, R_av, pre, fn⟩
section
variable (g_a3 : In_a3 -> Out_a3) (g_au : In_au -> Out_au)
abbrev X_av : Ctx := ctx tys 38 (conOf [(66, ⟨M_a3, R_a3, fun _ => true, g_a3⟩), (139, ⟨M_au, R_au, fun _ => true, g_au⟩)]) (keepOf [(pt0, (⟨[(0, .asis), (3, .asis)], [], []⟩ : Keep))]) (fun _ => [])
noncomputable abbrev E_av (k : Nat) (x : In_av) : Option Out_av := evFn (X_av g_a3 g_au) Tryz.f70 R_av M_av k x
def h0_av (x0 : Dm (.imm L_SpcTest)) (h0 : Dn I) : St := mkS [(0, (AV.val L_SpcTest x0)), (3, (AV.val I h0))] []
noncomputable def r_av (x : In_av) (k : Nat) (p : List Bool) (s : St) : Option Out_av := rounds (X_av g_a3 g_au) Tryz.f70 R_av M_av x k p s
variable {g_a3 g_au}
theorem ev_av (k : Nat) (x0 : Dm (.imm L_SpcTest)) : E_av g_a3 g_au k (x0, ()) =
  (bif (bif (g_a3 ((List.length x0 : Int), ((1 : Int), ((4 : Int), ())))).1 then false else true) then (some (false, ())) else (r_av g_a3 g_au (x0, ()) k pt0 (h0_av x0 (0 : Int)))) := by kernel_rfl
theorem rd0_av (k : Nat) (x0 : Dm (.imm L_SpcTest)) (h0 : Dn I) : r_av g_a3 g_au (x0, ()) (k + 1) pt0 (h0_av x0 h0) =
  (bif (decide (h0 < (List.length x0 : Int))) then (bif (bif (decide ((0 : Int) <= h0)) then (decide (h0 < (List.length x0 : Int))) else false) then (bif (bif (g_au ((rdL (e := S_SpcTest) x0 h0), ())).1 then false else true) then (some (false, ())) else (bif (decide ((0 : Int) < h0)) then (bif (bif (decide ((0 : Int) <= (w64 (h0 - (1 : Int))))) then (decide ((w64 (h0 - (1 : Int))) < (List.length x0 : Int))) else false) then (bif (bif (decide ((0 : Int) <= h0)) then (decide (h0 < (List.length x0 : Int))) else false) then (bif (decide ((rdL (e := S_SpcTest) x0 h0).1 <= (rdL (e := S_SpcTest) x0 (w64 (h0 - (1 : Int)))).1)) then (some (false, ())) else (r_av g_a3 g_au (x0, ()) k pt0 (h0_av x0 (w64 (h0 + (1 : Int)))))) else none) else none) else (r_av g_a3 g_au (x0, ()) k pt0 (h0_av x0 (w64 (h0 + (1 : Int))))))) else none) else (some (true, ()))) := by kernel_rfl
theorem S_av (h_a3 : C_a3 (fun _ => true) g_a3) (h_au : C_au (fun _ => true) g_au) {pre : In_av -> Bool} {fn : In_av -> Out_av} (hev : ∀ x, pre x = true -> ∃ k, E_av g_a3 g_au k x = some (fn x)) : C_av pre fn := sound tysOk mixed (fn := Tryz.f70) rfl rfl rfl (.cons h_a3 (.cons h_au .nil)) _ hev
end
/-! aw: sSpcOk -/
abbrev M_aw : List Vm.Mode := [.imm L_SpcSpec]
abbrev R_aw : List (RK × Sh) := [(.imm, .bool)]
abbrev In_aw : Type := (insSh M_aw).den
abbrev Out_aw : Type := (outSh R_aw M_aw).den
abbrev C_aw (pre : In_aw -> Bool) (fn : In_aw -> Out_aw) : Prop := Sound Tryz.prog 111 ⟨M_aw, R_aw, pre, fn⟩
section
variable (g_av : In_av -> Out_av) (g_a3 : In_a3 -> Out_a3)
abbrev X_aw : Ctx := ctx tys 40 (conOf [(70, ⟨M_av, R_av, fun _ => true, g_av⟩), (66, ⟨M_a3, R_a3, fun _ => true, g_a3⟩)]) (keepOf [(pt2, (⟨[(0, .asis), (3, .asis), (4, .asis)], [], []⟩ : Keep))]) (fun _ => [])
noncomputable abbrev E_aw (k : Nat) (x : In_aw) : Option Out_aw := evFn (X_aw g_av g_a3) Tryz.f111 R_aw M_aw k x
def h0_aw (x0 : Dm (.imm L_SpcSpec)) (h0 : Dn I) (h1 : Dn I) : St := mkS [(0, (AV.val L_SpcSpec x0)), (3, (AV.val I h0)), (4, (AV.val I h1))] []
noncomputable def r_aw (x : In_aw) (k : Nat) (p : List Bool) (s : St) : Option Out_aw := rounds (X_aw g_av g_a3) Tryz.f111 R_aw M_aw x k p s
variable {g_av g_a3}
theorem ev_aw (k : Nat) (x0 : Dm (.imm L_SpcSpec)) : E_aw g_av g_a3 k (x0, ()) =
  (bif (decide ((6 : Int) < (List.length x0 : Int))) then (some (false, ())) else (r_aw g_av g_a3 (x0, ()) k pt2 (h0_aw x0 (0 : Int) (0 : Int)))) := by kernel_rfl
theorem rd0_aw (k : Nat) (x0 : Dm (.imm L_SpcSpec)) (h0 : Dn I) (h1 : Dn I) : r_aw g_av g_a3 (x0, ()) (k + 1) pt2 (h0_aw x0 h0 h1) =
  (bif (decide (h1 < (List.length x0 : Int))) then (bif (bif (decide ((0 : Int) <= h1)) then (decide (h1 < (List.length x0 : Int))) else false) then (bif (bif (g_av ((rdL (e := S_SpcSpec) x0 h1).1, ())).1 then false else true) then (some (false, ())) else (bif (bif (decide ((0 : Int) <= h1)) then (decide (h1 < (List.length x0 : Int))) else false) then (bif (bif (g_a3 ((rdL (e := S_SpcSpec) x0 h1).2, ((1 : Int), ((3 : Int), ())))).1 then false else true) then (some (false, ())) else (bif (bif (decide ((0 : Int) <= h1)) then (decide (h1 < (List.length x0 : Int))) else false) then (bif (decide ((rdL (e := S_SpcSpec) x0 h1).2 = (2 : Int))) then (r_aw g_av g_a3 (x0, ()) k pt2 (h0_aw x0 (w64 (h0 + (1 : Int))) (w64 (h1 + (1 : Int))))) else (r_aw g_av g_a3 (x0, ()) k pt2 (h0_aw x0 h0 (w64 (h1 + (1 : Int)))))) else none)) else none)) else none) else (some ((decide (h0 <= (1 : Int))), ()))) := by kernel_rfl
theorem S_aw (h_av : C_av (fun _ => true) g_av) (h_a3 : C_a3 (fun _ => true) g_a3) {pre : In_aw -> Bool} {fn : In_aw -> Out_aw} (hev : ∀ x, pre x = true -> ∃ k, E_aw g_av g_a3 k x = some (fn x)) : C_aw pre fn := sound tysOk mixed (fn := Tryz.f111) rfl rfl rfl (.cons h_av (.cons h_a3 .nil)) _ hev
end
/-! ax: sSpcAdd -/
abbrev M_ax : List Vm.Mode := [.imm L_SpcSpec, .imm L_SpcTest]
abbrev R_ax : List (RK × Sh) := [(.own, L_SpcSpec), (.imm, .bool)]
abbrev In_ax : Type := (insSh M_ax).den
abbrev Out_ax : Type := (outSh R_ax M_ax).den
abbrev C_ax (pre : In_ax -> Bool) (fn : In_ax -> Out_ax) : Prop := Sound Tryz.prog 178 ⟨M_ax, R_ax, pre, fn⟩
section
variable (g_ap : In_ap -> Out_ap) (p_ap : In_ap -> Bool) (g_aw : In_aw -> Out_aw) (g_av : In_av -> Out_av)
abbrev X_ax : Ctx := ctx tys 30 (conOf [(136, ⟨M_ap, R_ap, p_ap, g_ap⟩), (111, ⟨M_aw, R_aw, fun _ => true, g_aw⟩), (70, ⟨M_av, R_av, fun _ => true, g_av⟩)]) (keepOf []) (fun _ => [])
noncomputable abbrev E_ax (k : Nat) (x : In_ax) : Option Out_ax := evFn (X_ax g_ap p_ap g_aw g_av) Tryz.f178 R_ax M_ax k x
variable {g_ap p_ap g_aw g_av}
theorem ev_ax (k : Nat) (x0 : Dm (.imm L_SpcSpec)) (x1 : Dm (.imm L_SpcTest)) : E_ax g_ap p_ap g_aw g_av k (x0, x1, ()) =
  (bif (p_ap (x0, ())) then (bif (bif (g_aw (x0, ())).1 then false else true) then (some ((g_ap (x0, ())).1, (false, ()))) else (bif (bif (g_av (x1, ())).1 then false else true) then (some ((g_ap (x0, ())).1, (false, ()))) else (bif (decide ((List.length x0 : Int) = (6 : Int))) then (some ((g_ap (x0, ())).1, (false, ()))) else (bif (fitL [] x1) then (bif (fitL (g_ap (x0, ())).1 [((List.append [] x1), (1 : Int))]) then (some ((List.append (g_ap (x0, ())).1 [((List.append [] x1), (1 : Int))]), (true, ()))) else none) else none)))) else none) := by kernel_rfl
theorem S_ax (h_ap : C_ap p_ap g_ap) (h_aw : C_aw (fun _ => true) g_aw) (h_av : C_av (fun _ => true) g_av) {pre : In_ax -> Bool} {fn : In_ax -> Out_ax} (hev : ∀ x, pre x = true -> ∃ k, E_ax g_ap p_ap g_aw g_av k x = some (fn x)) : C_ax pre fn := sound tysOk mixed (fn := Tryz.f178) rfl rfl rfl (.cons h_ap (.cons h_aw (.cons h_av .nil))) _ hev
end
/-! ay: sSpcRaise -/
abbrev M_ay : List Vm.Mode := [.imm L_SpcSpec, .imm I]
abbrev R_ay : List (RK × Sh) := [(.own, L_SpcSpec), (.imm, .bool)]
abbrev In_ay : Type := (insSh M_ay).den
abbrev Out_ay : Type := (outSh R_ay M_ay).den
abbrev C_ay (pre : In_ay -> Bool) (fn : In_ay -> Out_ay) : Prop := Sound Tryz.prog 179 ⟨M_ay, R_ay, pre, fn⟩
section
variable (g_ap : In_ap -> Out_ap) (p_ap : In_ap -> Bool) (g_aw : In_aw -> Out_aw) (g_a3 : In_a3 -> Out_a3)
abbrev X_ay : Ctx := ctx tys 51 (conOf [(136, ⟨M_ap, R_ap, p_ap, g_ap⟩), (111, ⟨M_aw, R_aw, fun _ => true, g_aw⟩), (66, ⟨M_a3, R_a3, fun _ => true, g_a3⟩)]) (keepOf [(pt2, (⟨[(1, .asis), (6, .own), (7, .asis)], [], []⟩ : Keep))]) (fun _ => [])
noncomputable abbrev E_ay (k : Nat) (x : In_ay) : Option Out_ay := evFn (X_ay g_ap p_ap g_aw g_a3) Tryz.f179 R_ay M_ay k x
def h0_ay (x0 : Dm (.imm L_SpcSpec)) (x1 : Dm (.imm I)) (h0 : Dn I) (h1 : (List (Dn S_SpcSpec))) : St := mkS [(1, (AV.val I x1)), (6, (AV.sref 2506 none [])), (7, (AV.val I h0))] [(2506, (Ob.arr 83 S_SpcSpec h1))]
noncomputable def r_ay (x : In_ay) (k : Nat) (p : List Bool) (s : St) : Option Out_ay := rounds (X_ay g_ap p_ap g_aw g_a3) Tryz.f179 R_ay M_ay x k p s
variable {g_ap p_ap g_aw g_a3}
theorem ev_ay (k : Nat) (x0 : Dm (.imm L_SpcSpec)) (x1 : Dm (.imm I)) : E_ay g_ap p_ap g_aw g_a3 k (x0, x1, ()) =
  (bif (p_ap (x0, ())) then (bif (bif (g_aw (x0, ())).1 then false else true) then (some ((g_ap (x0, ())).1, (false, ()))) else (bif (bif (g_a3 (x1, ((0 : Int), ((w64 ((List.length x0 : Int) - (1 : Int))), ())))).1 then false else true) then (some ((g_ap (x0, ())).1, (false, ()))) else (bif (bif (decide ((0 : Int) <= x1)) then (decide (x1 < (List.length x0 : Int))) else false) then (bif (bif (decide ((rdL (e := S_SpcSpec) x0 x1).2 = (1 : Int))) then false else true) then (some ((g_ap (x0, ())).1, (false, ()))) else (r_ay g_ap p_ap g_aw g_a3 (x0, x1, ()) k pt2 (h0_ay x0 x1 (0 : Int) ((g_ap (x0, ())).1)))) else none))) else none) := by kernel_rfl
theorem rd0_ay (k : Nat) (x0 : Dm (.imm L_SpcSpec)) (x1 : Dm (.imm I)) (h0 : Dn I) (h1 : (List (Dn S_SpcSpec))) : r_ay g_ap p_ap g_aw g_a3 (x0, x1, ()) (k + 1) pt2 (h0_ay x0 x1 h0 h1) =
  (bif (decide (h0 < (List.length h1 : Int))) then (bif (bif (decide ((0 : Int) <= h0)) then (decide (h0 < (List.length h1 : Int))) else false) then (bif (decide ((rdL (e := S_SpcSpec) h1 h0).2 = (2 : Int))) then (bif (bif (decide ((0 : Int) <= h0)) then (decide (h0 < (List.length h1 : Int))) else false) then (r_ay g_ap p_ap g_aw g_a3 (x0, x1, ()) k pt2 (h0_ay x0 x1 (w64 (h0 + (1 : Int))) (List.set h1 (Int.toNat h0) ((rdL (e := S_SpcSpec) h1 h0).1, (3 : Int))))) else none) else (r_ay g_ap p_ap g_aw g_a3 (x0, x1, ()) k pt2 (h0_ay x0 x1 (w64 (h0 + (1 : Int))) h1))) else none) else (bif (bif (decide ((0 : Int) <= x1)) then (decide (x1 < (List.length h1 : Int))) else false) then (some ((List.set h1 (Int.toNat x1) ((rdL (e := S_SpcSpec) h1 x1).1, (2 : Int))), (true, ()))) else none)) := by kernel_rfl
theorem S_ay (h_ap : C_ap p_ap g_ap) (h_aw : C_aw (fun _ => true) g_aw) (h_a3 : C_a3 (fun _ => true) g_a3) {pre : In_ay -> Bool} {fn : In_ay -> Out_ay} (hev : ∀ x, pre x = true -> ∃ k, E_ay g_ap p_ap g_aw g_a3 k x = some (fn x)) : C_ay pre fn := sound tysOk mixed (fn := Tryz.f179) rfl rfl rfl (.cons h_ap (.cons h_aw (.cons h_a3 .nil))) _ hev
end
/-! az: sl9Spec -/
abbrev M_az : List Vm.Mode := [.own S_HouHouse, .imm S_ReqReq]
abbrev R_az : List (RK × Sh) := [(.own, S_HouHouse), (.imm, I)]
abbrev In_az : Type := (insSh M_az).den
abbrev Out_az : Type := (outSh R_az M_az).den
abbrev C_az (pre : In_az -> Bool) (fn : In_az -> Out_az) : Prop := Sound Tryz.prog 133 ⟨M_az, R_az, pre, fn⟩
section
variable (g_ax : In_ax -> Out_ax) (p_ax : In_ax -> Bool) (g_ay : In_ay -> Out_ay) (p_ay : In_ay -> Bool)
abbrev X_az : Ctx := ctx tys 48 (conOf [(178, ⟨M_ax, R_ax, p_ax, g_ax⟩), (179, ⟨M_ay, R_ay, p_ay, g_ay⟩)]) (keepOf []) (fun _ => [])
noncomputable abbrev E_az (k : Nat) (x : In_az) : Option Out_az := evFn (X_az g_ax p_ax g_ay p_ay) Tryz.f133 R_az M_az k x
variable {g_ax p_ax g_ay p_ay}
theorem ev_az (k : Nat) (x0 : Dm (.own S_HouHouse)) (x1 : Dm (.imm S_ReqReq)) : E_az g_ax p_ax g_ay p_ay k (x0, x1, ()) =
  (bif (decide (x1.2.1 = (1 : Int))) then (cl (p_ax (x0.2.1, (x1.2.2.2.2.2.2, ()))) (g_ax (x0.2.1, (x1.2.2.2.2.2.2, ()))) fun y0 => (bif (bif y0.2.1 then false else true) then (some (x0, ((6 : Int), ()))) else (some ((x0.1, (y0.1, x0.2.2)), ((1 : Int), ()))))) else (bif (decide ((List.length x0.2.1 : Int) <= x1.2.2.2.2.1)) then (some (x0, ((4 : Int), ()))) else (cl (p_ay (x0.2.1, (x1.2.2.2.2.1, ()))) (g_ay (x0.2.1, (x1.2.2.2.2.1, ()))) fun y1 => (bif (bif y1.2.1 then false else true) then (some (x0, ((5 : Int), ()))) else (some ((x0.1, (y1.1, x0.2.2)), ((1 : Int), ()))))))) := by kernel_rfl
theorem S_az (h_ax : C_ax p_ax g_ax) (h_ay : C_ay p_ay g_ay) {pre : In_az -> Bool} {fn : In_az -> Out_az} (hev : ∀ x, pre x = true -> ∃ k, E_az g_ax p_ax g_ay p_ay k x = some (fn x)) : C_az pre fn := sound tysOk mixed (fn := Tryz.f133) rfl rfl rfl (.cons h_ax (.cons h_ay .nil)) _ hev
end
/-! b0: sTstNew -/
abbrev M_b0 : List Vm.Mode := [.imm S_SpcTest]
abbrev R_b0 : List (RK × Sh) := [(.own, S_TstTest)]
abbrev In_b0 : Type := (insSh M_b0).den
abbrev Out_b0 : Type := (outSh R_b0 M_b0).den
abbrev C_b0 (pre : In_b0 -> Bool) (fn : In_b0 -> Out_b0) : Prop := Sound Tryz.prog 180 ⟨M_b0, R_b0, pre, fn⟩
abbrev X_b0 : Ctx := ctx tys 5 (conOf []) (keepOf []) (fun _ => [])
noncomputable abbrev E_b0 (k : Nat) (x : In_b0) : Option Out_b0 := evFn X_b0 Tryz.f180 R_b0 M_b0 k x
theorem ev_b0 (k : Nat) (x0 : Dm (.imm S_SpcTest)) : E_b0 k (x0, ()) =
  (some ((x0, ((0 : Int), (((0 : Int), (0 : Int)), ((0 : Int), [])))), ())) := by kernel_rfl
theorem S_b0  {pre : In_b0 -> Bool} {fn : In_b0 -> Out_b0} (hev : ∀ x, pre x = true -> ∃ k, E_b0 k x = some (fn x)) : C_b0 pre fn := sound tysOk mixed (fn := Tryz.f180) rfl rfl rfl ConsOk.nil _ hev
/-! b1: sBatNew -/
abbrev M_b1 : List Vm.Mode := [.imm I, .imm L_SpcTest, .imm I]
abbrev R_b1 : List (RK × Sh) := [(.own, S_BatBatch)]
abbrev In_b1 : Type := (insSh M_b1).den
abbrev Out_b1 : Type := (outSh R_b1 M_b1).den
abbrev C_b1 (pre : In_b1 -> Bool) (fn : In_b1 -> Out_b1) : Prop := Sound Tryz.prog 123 ⟨M_b1, R_b1, pre, fn⟩
section
variable (g_a3 : In_a3 -> Out_a3) (g_av : In_av -> Out_av) (g_b0 : In_b0 -> Out_b0)
abbrev X_b1 : Ctx := ctx tys 43 (conOf [(66, ⟨M_a3, R_a3, fun _ => true, g_a3⟩), (70, ⟨M_av, R_av, fun _ => true, g_av⟩), (180, ⟨M_b0, R_b0, fun _ => true, g_b0⟩)]) (keepOf [(pt2, (⟨[(1, .asis), (6, .asis), (7, .asis), (8, .asis)], [(6, (.pair .asis (.pair .asis (.pair .own (.pair .asis (.pair .own .own)))))), (7, (.pair .asis (.pair .asis (.pair .own (.pair .asis (.pair .own .own))))))], []⟩ : Keep))]) (fun _ => [])
noncomputable abbrev E_b1 (k : Nat) (x : In_b1) : Option Out_b1 := evFn (X_b1 g_a3 g_av g_b0) Tryz.f123 R_b1 M_b1 k x
def h0_b1 (x0 : Dm (.imm I)) (x1 : Dm (.imm L_SpcTest)) (x2 : Dm (.imm I)) (h0 : Dn I) (h1 : Dn I) (h2 : Dn I) (h3 : Dn I) (h4 : (List (Dn S_TstTest))) (h5 : (List (Dn S_BatSig))) (h6 : (List (Dn Sh.bool))) (h7 : Dn I) (h8 : (List (Dn S_TstTest))) (h9 : (List (Dn S_BatSig))) (h10 : (List (Dn Sh.bool))) : St := mkS [(1, (AV.val L_SpcTest x1)), (6, (AV.ptr 6 none [])), (7, (AV.ptr 7 none [])), (8, (AV.val I h0))] [(6, (Ob.box S_BatBatch (AV.pair (AV.val I h1) (AV.pair (AV.val I h2) (AV.pair (AV.sref 2506 none []) (AV.pair (AV.val I h3) (AV.pair (AV.sref 12506 none []) (AV.sref 22506 none [])))))))), (2506, (Ob.arr 56 S_TstTest h4)), (12506, (Ob.arr 58 S_BatSig h5)), (22506, (Ob.arr 4 Sh.bool h6)), (7, (Ob.box S_BatBatch (AV.pair (AV.val I x0) (AV.pair (AV.val I x2) (AV.pair (AV.sref 2507 none []) (AV.pair (AV.val I h7) (AV.pair (AV.sref 12507 none []) (AV.sref 22507 none [])))))))), (2507, (Ob.arr 56 S_TstTest h8)), (12507, (Ob.arr 58 S_BatSig h9)), (22507, (Ob.arr 4 Sh.bool h10))]
noncomputable def r_b1 (x : In_b1) (k : Nat) (p : List Bool) (s : St) : Option Out_b1 := rounds (X_b1 g_a3 g_av g_b0) Tryz.f123 R_b1 M_b1 x k p s
variable {g_a3 g_av g_b0}
theorem ev_b1 (k : Nat) (x0 : Dm (.imm I)) (x1 : Dm (.imm L_SpcTest)) (x2 : Dm (.imm I)) : E_b1 g_a3 g_av g_b0 k (x0, x1, x2, ()) =
  (bif (bif (g_a3 (x0, ((0 : Int), ((5 : Int), ())))).1 then false else true) then (some (((0 : Int), ((0 : Int), ([], ((0 : Int), ([], []))))), ())) else (bif (bif (g_av (x1, ())).1 then false else true) then (some (((0 : Int), ((0 : Int), ([], ((0 : Int), ([], []))))), ())) else (bif (bif (g_a3 (x2, ((1 : Int), ((10000 : Int), ())))).1 then false else true) then (some (((0 : Int), ((0 : Int), ([], ((0 : Int), ([], []))))), ())) else (r_b1 g_a3 g_av g_b0 (x0, x1, x2, ()) k pt2 (h0_b1 x0 x1 x2 (0 : Int) (0 : Int) (0 : Int) (0 : Int) [] [] [] (1 : Int) [] [] []))))) := by kernel_rfl
theorem rd0_b1 (k : Nat) (x0 : Dm (.imm I)) (x1 : Dm (.imm L_SpcTest)) (x2 : Dm (.imm I)) (h0 : Dn I) (h1 : Dn I) (h2 : Dn I) (h3 : Dn I) (h4 : (List (Dn S_TstTest))) (h5 : (List (Dn S_BatSig))) (h6 : (List (Dn Sh.bool))) (h7 : Dn I) (h8 : (List (Dn S_TstTest))) (h9 : (List (Dn S_BatSig))) (h10 : (List (Dn Sh.bool))) : r_b1 g_a3 g_av g_b0 (x0, x1, x2, ()) (k + 1) pt2 (h0_b1 x0 x1 x2 h0 h1 h2 h3 h4 h5 h6 h7 h8 h9 h10) =
  (bif (decide (h0 < (List.length x1 : Int))) then (bif (bif (decide ((0 : Int) <= h0)) then (decide (h0 < (List.length x1 : Int))) else false) then (bif (fitL h8 [((g_b0 ((rdL (e := S_SpcTest) x1 h0), ())).1)]) then (r_b1 g_a3 g_av g_b0 (x0, x1, x2, ()) k pt2 (h0_b1 x0 x1 x2 (w64 (h0 + (1 : Int))) h1 h2 h3 h4 h5 h6 h7 (List.append h8 [((g_b0 ((rdL (e := S_SpcTest) x1 h0), ())).1)]) h9 h10)) else none) else none) else (some ((x0, (x2, (h8, (h7, (h9, h10))))), ()))) := by kernel_rfl
theorem S_b1 (h_a3 : C_a3 (fun _ => true) g_a3) (h_av : C_av (fun _ => true) g_av) (h_b0 : C_b0 (fun _ => true) g_b0) {pre : In_b1 -> Bool} {fn : In_b1 -> Out_b1} (hev : ∀ x, pre x = true -> ∃ k, E_b1 g_a3 g_av g_b0 k x = some (fn x)) : C_b1 pre fn := sound tysOk mixed (fn := Tryz.f123) rfl rfl rfl (.cons h_a3 (.cons h_av (.cons h_b0 .nil))) _ hev
end
/-! b2: sl9Take -/
abbrev M_b2 : List Vm.Mode := [.own S_HouHouse, .imm S_ReqReq]
abbrev R_b2 : List (RK × Sh) := [(.own, S_HouHouse), (.imm, I)]
abbrev In_b2 : Type := (insSh M_b2).den
abbrev Out_b2 : Type := (outSh R_b2 M_b2).den
abbrev C_b2 (pre : In_b2 -> Bool) (fn : In_b2 -> Out_b2) : Prop := Sound Tryz.prog 134 ⟨M_b2, R_b2, pre, fn⟩
section
variable (g_a9 : In_a9 -> Out_a9) (p_a9 : In_a9 -> Bool) (g_b1 : In_b1 -> Out_b1) (p_b1 : In_b1 -> Bool)
abbrev X_b2 : Ctx := ctx tys 38 (conOf [(172, ⟨M_a9, R_a9, p_a9, g_a9⟩), (123, ⟨M_b1, R_b1, p_b1, g_b1⟩)]) (keepOf []) (fun _ => [])
noncomputable abbrev E_b2 (k : Nat) (x : In_b2) : Option Out_b2 := evFn (X_b2 g_a9 p_a9 g_b1 p_b1) Tryz.f134 R_b2 M_b2 k x
variable {g_a9 p_a9 g_b1 p_b1}
theorem ev_b2 (k : Nat) (x0 : Dm (.own S_HouHouse)) (x1 : Dm (.imm S_ReqReq)) : E_b2 g_a9 p_a9 g_b1 p_b1 k (x0, x1, ()) =
  (cl (p_a9 (x0.2.1, ())) (g_a9 (x0.2.1, ())) fun y0 => (bif (decide (y0.1 < (0 : Int))) then (some (x0, ((4 : Int), ()))) else (bif (decide ((List.length x0.2.2 : Int) = (4 : Int))) then (some (x0, ((6 : Int), ()))) else (bif (decide (x1.2.2.2.2.1 = (0 : Int))) then (some (x0, ((5 : Int), ()))) else (bif (bif (decide ((0 : Int) <= y0.1)) then (decide (y0.1 < (List.length x0.2.1 : Int))) else false) then (cl (p_b1 (y0.1, ((rdL (e := S_SpcSpec) x0.2.1 y0.1).1, (x1.2.2.2.2.1, ())))) (g_b1 (y0.1, ((rdL (e := S_SpcSpec) x0.2.1 y0.1).1, (x1.2.2.2.2.1, ())))) fun y1 => (bif (fitL x0.2.2 [(y1.1)]) then (some ((x0.1, (x0.2.1, (List.append x0.2.2 [(y1.1)]))), ((1 : Int), ()))) else none)) else none))))) := by kernel_rfl
theorem S_b2 (h_a9 : C_a9 p_a9 g_a9) (h_b1 : C_b1 p_b1 g_b1) {pre : In_b2 -> Bool} {fn : In_b2 -> Out_b2} (hev : ∀ x, pre x = true -> ∃ k, E_b2 g_a9 p_a9 g_b1 p_b1 k x = some (fn x)) : C_b2 pre fn := sound tysOk mixed (fn := Tryz.f134) rfl rfl rfl (.cons h_a9 (.cons h_b1 .nil)) _ hev
end
/-! b3: sTstNeed -/
abbrev M_b3 : List Vm.Mode := [.imm I]
abbrev R_b3 : List (RK × Sh) := [(.imm, I)]
abbrev In_b3 : Type := (insSh M_b3).den
abbrev Out_b3 : Type := (outSh R_b3 M_b3).den
abbrev C_b3 (pre : In_b3 -> Bool) (fn : In_b3 -> Out_b3) : Prop := Sound Tryz.prog 149 ⟨M_b3, R_b3, pre, fn⟩
abbrev X_b3 : Ctx := ctx tys 8 (conOf []) (keepOf []) (fun _ => [])
noncomputable abbrev E_b3 (k : Nat) (x : In_b3) : Option Out_b3 := evFn X_b3 Tryz.f149 R_b3 M_b3 k x
theorem ev_b3 (k : Nat) (x0 : Dm (.imm I)) : E_b3 k (x0, ()) =
  (bif (decide (x0 = (1 : Int))) then (some ((1 : Int), ())) else (bif (decide (x0 = (2 : Int))) then (some ((2 : Int), ())) else (some ((0 : Int), ())))) := by kernel_rfl
theorem S_b3  {pre : In_b3 -> Bool} {fn : In_b3 -> Out_b3} (hev : ∀ x, pre x = true -> ∃ k, E_b3 k x = some (fn x)) : C_b3 pre fn := sound tysOk mixed (fn := Tryz.f149) rfl rfl rfl ConsOk.nil _ hev
/-! b4: sSpcIn -/
abbrev M_b4 : List Vm.Mode := [.imm S_SpcTest, .imm S_DecDec]
abbrev R_b4 : List (RK × Sh) := [(.imm, .bool)]
abbrev In_b4 : Type := (insSh M_b4).den
abbrev Out_b4 : Type := (outSh R_b4 M_b4).den
abbrev C_b4 (pre : In_b4 -> Bool) (fn : In_b4 -> Out_b4) : Prop := Sound Tryz.prog 151 ⟨M_b4, R_b4, pre, fn⟩
section
variable (g_au : In_au -> Out_au) (g_ab : In_ab -> Out_ab) (g_ad : In_ad -> Out_ad) (p_ad : In_ad -> Bool) (g_at : In_at -> Out_at)
abbrev X_b4 : Ctx := ctx tys 30 (conOf [(139, ⟨M_au, R_au, fun _ => true, g_au⟩), (69, ⟨M_ab, R_ab, fun _ => true, g_ab⟩), (192, ⟨M_ad, R_ad, p_ad, g_ad⟩), (186, ⟨M_at, R_at, fun _ => true, g_at⟩)]) (keepOf []) (fun _ => [])
noncomputable abbrev E_b4 (k : Nat) (x : In_b4) : Option Out_b4 := evFn (X_b4 g_au g_ab g_ad p_ad g_at) Tryz.f151 R_b4 M_b4 k x
variable {g_au g_ab g_ad p_ad g_at}
theorem ev_b4 (k : Nat) (x0 : Dm (.imm S_SpcTest)) (x1 : Dm (.imm S_DecDec)) : E_b4 g_au g_ab g_ad p_ad g_at k (x0, x1, ()) =
  (bif (bif (g_au (x0, ())).1 then false else true) then (some (false, ())) else (bif (bif (g_ab (x1, ())).1 then false else true) then (some (false, ())) else (bif (p_ad (x1, (x0.2.2.2, ()))) then (bif (decide ((g_at (x0.2.1, ((g_ad (x1, (x0.2.2.2, ()))).1, ()))).1 <= (0 : Int))) then (some ((decide ((g_at ((g_ad (x1, (x0.2.2.2, ()))).1, (x0.2.2.1, ()))).1 <= (0 : Int))), ())) else (some (false, ()))) else none))) := by kernel_rfl
theorem S_b4 (h_au : C_au (fun _ => true) g_au) (h_ab : C_ab (fun _ => true) g_ab) (h_ad : C_ad p_ad g_ad) (h_at : C_at (fun _ => true) g_at) {pre : In_b4 -> Bool} {fn : In_b4 -> Out_b4} (hev : ∀ x, pre x = true -> ∃ k, E_b4 g_au g_ab g_ad p_ad g_at k x = some (fn x)) : C_b4 pre fn := sound tysOk mixed (fn := Tryz.f151) rfl rfl rfl (.cons h_au (.cons h_ab (.cons h_ad (.cons h_at .nil)))) _ hev
end
/-! b5: sDecMean -/
abbrev M_b5 : List Vm.Mode := [.imm L_DecDec, .imm I]
abbrev R_b5 : List (RK × Sh) := [(.imm, S_DecDec)]
abbrev In_b5 : Type := (insSh M_b5).den
abbrev Out_b5 : Type := (outSh R_b5 M_b5).den
abbrev C_b5 (pre : In_b5 -> Bool) (fn : In_b5 -> Out_b5) : Prop := Sound Tryz.prog 221 ⟨M_b5, R_b5, pre, fn⟩
section
variable (g_a3 : In_a3 -> Out_a3) (g_ab : In_ab -> Out_ab) (g_ad : In_ad -> Out_ad) (p_ad : In_ad -> Bool) (g_a5 : In_a5 -> Out_a5) (p_a5 : In_a5 -> Bool) (g_ac : In_ac -> Out_ac) (p_ac : In_ac -> Bool)
abbrev X_b5 : Ctx := ctx tys 52 (conOf [(66, ⟨M_a3, R_a3, fun _ => true, g_a3⟩), (69, ⟨M_ab, R_ab, fun _ => true, g_ab⟩), (192, ⟨M_ad, R_ad, p_ad, g_ad⟩), (138, ⟨M_a5, R_a5, p_a5, g_a5⟩), (210, ⟨M_ac, R_ac, p_ac, g_ac⟩)]) (keepOf [(pt2, (⟨[(0, .asis), (1, .asis), (4, .asis), (5, .asis), (6, .asis)], [(4, .asis)], []⟩ : Keep))]) (fun _ => [])
noncomputable abbrev E_b5 (k : Nat) (x : In_b5) : Option Out_b5 := evFn (X_b5 g_a3 g_ab g_ad p_ad g_a5 p_a5 g_ac p_ac) Tryz.f221 R_b5 M_b5 k x
def h0_b5 (x0 : Dm (.imm L_DecDec)) (x1 : Dm (.imm I)) (h0 : Dn I) (h1 : Dn I) (h2 : Dn S_DecDec) : St := mkS [(0, (AV.val L_DecDec x0)), (1, (AV.val I x1)), (4, (AV.ptr 4 none [])), (5, (AV.val I h0)), (6, (AV.val I h1))] [(4, (Ob.box S_DecDec (AV.val S_DecDec h2)))]
noncomputable def r_b5 (x : In_b5) (k : Nat) (p : List Bool) (s : St) : Option Out_b5 := rounds (X_b5 g_a3 g_ab g_ad p_ad g_a5 p_a5 g_ac p_ac) Tryz.f221 R_b5 M_b5 x k p s
variable {g_a3 g_ab g_ad p_ad g_a5 p_a5 g_ac p_ac}
theorem ev_b5 (k : Nat) (x0 : Dm (.imm L_DecDec)) (x1 : Dm (.imm I)) : E_b5 g_a3 g_ab g_ad p_ad g_a5 p_a5 g_ac p_ac k (x0, x1, ()) =
  (bif (decide ((List.length x0 : Int) = (0 : Int))) then (some (((0 : Int), (0 : Int)), ())) else (bif (decide ((100 : Int) < (List.length x0 : Int))) then (some (((0 : Int), (0 : Int)), ())) else (bif (bif (g_a3 (x1, ((0 : Int), ((3 : Int), ())))).1 then false else true) then (some (((0 : Int), (0 : Int)), ())) else (r_b5 g_a3 g_ab g_ad p_ad g_a5 p_a5 g_ac p_ac (x0, x1, ()) k pt2 (h0_b5 x0 x1 (0 : Int) (0 : Int) ((0 : Int), (0 : Int))))))) := by kernel_rfl
theorem rd0_b5 (k : Nat) (x0 : Dm (.imm L_DecDec)) (x1 : Dm (.imm I)) (h0 : Dn I) (h1 : Dn I) (h2 : Dn S_DecDec) : r_b5 g_a3 g_ab g_ad p_ad g_a5 p_a5 g_ac p_ac (x0, x1, ()) (k + 1) pt2 (h0_b5 x0 x1 h0 h1 h2) =
  (bif (decide (h1 < (List.length x0 : Int))) then (bif (bif (decide ((0 : Int) <= h1)) then (decide (h1 < (List.length x0 : Int))) else false) then (bif (bif (g_ab ((rdL (e := S_DecDec) x0 h1), ())).1 then false else true) then (some (((0 : Int), (0 : Int)), ())) else (bif (bif (decide ((0 : Int) <= h1)) then (decide (h1 < (List.length x0 : Int))) else false) then (bif (p_ad ((rdL (e := S_DecDec) x0 h1), ((3 : Int), ()))) then (r_b5 g_a3 g_ab g_ad p_ad g_a5 p_a5 g_ac p_ac (x0, x1, ()) k pt2 (h0_b5 x0 x1 (w64 (h0 + (g_ad ((rdL (e := S_DecDec) x0 h1), ((3 : Int), ()))).1.1)) (w64 (h1 + (1 : Int))) h2)) else none) else none)) else none) else (bif (p_a5 ((w64 ((3 : Int) - x1)), ())) then (bif (p_ac (h0, ((w64 ((List.length x0 : Int) * (g_a5 ((w64 ((3 : Int) - x1)), ())).1)), ()))) then (some (((g_ac (h0, ((w64 ((List.length x0 : Int) * (g_a5 ((w64 ((3 : Int) - x1)), ())).1)), ()))).1, x1), ())) else none) else none)) := by kernel_rfl
theorem S_b5 (h_a3 : C_a3 (fun _ => true) g_a3) (h_ab : C_ab (fun _ => true) g_ab) (h_ad : C_ad p_ad g_ad) (h_a5 : C_a5 p_a5 g_a5) (h_ac : C_ac p_ac g_ac) {pre : In_b5 -> Bool} {fn : In_b5 -> Out_b5} (hev : ∀ x, pre x = true -> ∃ k, E_b5 g_a3 g_ab g_ad p_ad g_a5 p_a5 g_ac p_ac k x = some (fn x)) : C_b5 pre fn := sound tysOk mixed (fn := Tryz.f221) rfl rfl rfl (.cons h_a3 (.cons h_ab (.cons h_ad (.cons h_a5 (.cons h_ac .nil))))) _ hev
end
/-! b6: sl5Tell -/
abbrev M_b6 : List Vm.Mode := [.imm S_TstTest]
abbrev R_b6 : List (RK × Sh) := [(.imm, S_DecDec)]
abbrev In_b6 : Type := (insSh M_b6).den
abbrev Out_b6 : Type := (outSh R_b6 M_b6).den
abbrev C_b6 (pre : In_b6 -> Bool) (fn : In_b6 -> Out_b6) : Prop := Sound Tryz.prog 209 ⟨M_b6, R_b6, pre, fn⟩
section
variable (g_ad : In_ad -> Out_ad) (p_ad : In_ad -> Bool) (g_b5 : In_b5 -> Out_b5) (p_b5 : In_b5 -> Bool)
abbrev X_b6 : Ctx := ctx tys 33 (conOf [(192, ⟨M_ad, R_ad, p_ad, g_ad⟩), (221, ⟨M_b5, R_b5, p_b5, g_b5⟩)]) (keepOf []) (fun _ => [])
noncomputable abbrev E_b6 (k : Nat) (x : In_b6) : Option Out_b6 := evFn (X_b6 g_ad p_ad g_b5 p_b5) Tryz.f209 R_b6 M_b6 k x
variable {g_ad p_ad g_b5 p_b5}
theorem ev_b6 (k : Nat) (x0 : Dm (.imm S_TstTest)) : E_b6 g_ad p_ad g_b5 p_b5 k (x0, ()) =
  (bif (decide (x0.2.2.2.1 = (1 : Int))) then (bif (bif (decide ((0 : Int) <= (0 : Int))) then (decide ((0 : Int) < (List.length x0.2.2.2.2 : Int))) else false) then (bif (p_ad ((rdL (e := S_DecDec) x0.2.2.2.2 (0 : Int)), (x0.1.2.2.2, ()))) then (some ((g_ad ((rdL (e := S_DecDec) x0.2.2.2.2 (0 : Int)), (x0.1.2.2.2, ()))).1, ())) else none) else none) else (bif (decide (x0.2.2.2.1 = (2 : Int))) then (bif (fitL [x0.2.2.1] x0.2.2.2.2) then (bif (p_b5 ((List.append [x0.2.2.1] x0.2.2.2.2), (x0.1.2.2.2, ()))) then (some ((g_b5 ((List.append [x0.2.2.1] x0.2.2.2.2), (x0.1.2.2.2, ()))).1, ())) else none) else none) else (bif (p_ad (x0.2.2.1, (x0.1.2.2.2, ()))) then (some ((g_ad (x0.2.2.1, (x0.1.2.2.2, ()))).1, ())) else none))) := by kernel_rfl
theorem S_b6 (h_ad : C_ad p_ad g_ad) (h_b5 : C_b5 p_b5 g_b5) {pre : In_b6 -> Bool} {fn : In_b6 -> Out_b6} (hev : ∀ x, pre x = true -> ∃ k, E_b6 g_ad p_ad g_b5 p_b5 k x = some (fn x)) : C_b6 pre fn := sound tysOk mixed (fn := Tryz.f209) rfl rfl rfl (.cons h_ad (.cons h_b5 .nil)) _ hev
end
/-! b7: sl5Passes -/
abbrev M_b7 : List Vm.Mode := [.imm S_TstTest]
abbrev R_b7 : List (RK × Sh) := [(.imm, .bool)]
abbrev In_b7 : Type := (insSh M_b7).den
abbrev Out_b7 : Type := (outSh R_b7 M_b7).den
abbrev C_b7 (pre : In_b7 -> Bool) (fn : In_b7 -> Out_b7) : Prop := Sound Tryz.prog 191 ⟨M_b7, R_b7, pre, fn⟩
section
variable (g_b4 : In_b4 -> Out_b4) (g_b6 : In_b6 -> Out_b6) (p_b6 : In_b6 -> Bool)
abbrev X_b7 : Ctx := ctx tys 25 (conOf [(151, ⟨M_b4, R_b4, fun _ => true, g_b4⟩), (209, ⟨M_b6, R_b6, p_b6, g_b6⟩)]) (keepOf [(pt1, (⟨[(1, .asis), (3, .asis)], [(1, .asis)], []⟩ : Keep))]) (fun _ => [])
noncomputable abbrev E_b7 (k : Nat) (x : In_b7) : Option Out_b7 := evFn (X_b7 g_b4 g_b6 p_b6) Tryz.f191 R_b7 M_b7 k x
def h0_b7 (x0 : Dm (.imm S_TstTest)) (h0 : Dn I) : St := mkS [(1, (AV.ptr 1 none [])), (3, (AV.val I h0))] [(1, (Ob.box S_TstTest (AV.val S_TstTest x0)))]
noncomputable def r_b7 (x : In_b7) (k : Nat) (p : List Bool) (s : St) : Option Out_b7 := rounds (X_b7 g_b4 g_b6 p_b6) Tryz.f191 R_b7 M_b7 x k p s
variable {g_b4 g_b6 p_b6}
theorem ev_b7 (k : Nat) (x0 : Dm (.imm S_TstTest)) : E_b7 g_b4 g_b6 p_b6 k (x0, ()) =
  (r_b7 g_b4 g_b6 p_b6 (x0, ()) k pt1 (h0_b7 x0 (0 : Int))) := by kernel_rfl
theorem rd0_b7 (k : Nat) (x0 : Dm (.imm S_TstTest)) (h0 : Dn I) : r_b7 g_b4 g_b6 p_b6 (x0, ()) (k + 1) pt1 (h0_b7 x0 h0) =
  (bif (decide (h0 < (List.length x0.2.2.2.2 : Int))) then (bif (bif (decide ((0 : Int) <= h0)) then (decide (h0 < (List.length x0.2.2.2.2 : Int))) else false) then (bif (bif (g_b4 (x0.1, ((rdL (e := S_DecDec) x0.2.2.2.2 h0), ()))).1 then false else true) then (some (false, ())) else (r_b7 g_b4 g_b6 p_b6 (x0, ()) k pt1 (h0_b7 x0 (w64 (h0 + (1 : Int)))))) else none) else (bif (p_b6 (x0, ())) then (some ((g_b4 (x0.1, ((g_b6 (x0, ())).1, ()))).1, ())) else none)) := by kernel_rfl
theorem S_b7 (h_b4 : C_b4 (fun _ => true) g_b4) (h_b6 : C_b6 p_b6 g_b6) {pre : In_b7 -> Bool} {fn : In_b7 -> Out_b7} (hev : ∀ x, pre x = true -> ∃ k, E_b7 g_b4 g_b6 p_b6 k x = some (fn x)) : C_b7 pre fn := sound tysOk mixed (fn := Tryz.f191) rfl rfl rfl (.cons h_b4 (.cons h_b6 .nil)) _ hev
end
/-! b8: sl5State -/
abbrev M_b8 : List Vm.Mode := [.imm S_TstTest]
abbrev R_b8 : List (RK × Sh) := [(.imm, I)]
abbrev In_b8 : Type := (insSh M_b8).den
abbrev Out_b8 : Type := (outSh R_b8 M_b8).den
abbrev C_b8 (pre : In_b8 -> Bool) (fn : In_b8 -> Out_b8) : Prop := Sound Tryz.prog 150 ⟨M_b8, R_b8, pre, fn⟩
section
variable (g_b4 : In_b4 -> Out_b4) (g_b3 : In_b3 -> Out_b3) (g_b7 : In_b7 -> Out_b7) (p_b7 : In_b7 -> Bool)
abbrev X_b8 : Ctx := ctx tys 33 (conOf [(151, ⟨M_b4, R_b4, fun _ => true, g_b4⟩), (149, ⟨M_b3, R_b3, fun _ => true, g_b3⟩), (191, ⟨M_b7, R_b7, p_b7, g_b7⟩)]) (keepOf []) (fun _ => [])
noncomputable abbrev E_b8 (k : Nat) (x : In_b8) : Option Out_b8 := evFn (X_b8 g_b4 g_b3 g_b7 p_b7) Tryz.f150 R_b8 M_b8 k x
variable {g_b4 g_b3 g_b7 p_b7}
theorem ev_b8 (k : Nat) (x0 : Dm (.imm S_TstTest)) : E_b8 g_b4 g_b3 g_b7 p_b7 k (x0, ()) =
  (bif (decide (x0.2.2.2.1 = (0 : Int))) then (bif (g_b4 (x0.1, (x0.2.2.1, ()))).1 then (some ((3 : Int), ())) else (bif (decide (x0.2.2.2.1 = (0 : Int))) then (some ((1 : Int), ())) else (bif (decide (x0.2.2.2.1 = (3 : Int))) then (some ((4 : Int), ())) else (bif (decide ((List.length x0.2.2.2.2 : Int) < (g_b3 (x0.2.2.2.1, ())).1)) then (some ((2 : Int), ())) else (bif (p_b7 (x0, ())) then (bif (g_b7 (x0, ())).1 then (some ((3 : Int), ())) else (some ((4 : Int), ()))) else none))))) else (bif (decide (x0.2.2.2.1 = (0 : Int))) then (some ((1 : Int), ())) else (bif (decide (x0.2.2.2.1 = (3 : Int))) then (some ((4 : Int), ())) else (bif (decide ((List.length x0.2.2.2.2 : Int) < (g_b3 (x0.2.2.2.1, ())).1)) then (some ((2 : Int), ())) else (bif (p_b7 (x0, ())) then (bif (g_b7 (x0, ())).1 then (some ((3 : Int), ())) else (some ((4 : Int), ()))) else none))))) := by kernel_rfl
theorem S_b8 (h_b4 : C_b4 (fun _ => true) g_b4) (h_b3 : C_b3 (fun _ => true) g_b3) (h_b7 : C_b7 p_b7 g_b7) {pre : In_b8 -> Bool} {fn : In_b8 -> Out_b8} (hev : ∀ x, pre x = true -> ∃ k, E_b8 g_b4 g_b3 g_b7 p_b7 k x = some (fn x)) : C_b8 pre fn := sound tysOk mixed (fn := Tryz.f150) rfl rfl rfl (.cons h_b4 (.cons h_b3 (.cons h_b7 .nil))) _ hev
end
/-! b9: sTstOk -/
abbrev M_b9 : List Vm.Mode := [.imm S_TstTest]
abbrev R_b9 : List (RK × Sh) := [(.imm, .bool)]
abbrev In_b9 : Type := (insSh M_b9).den
abbrev Out_b9 : Type := (outSh R_b9 M_b9).den
abbrev C_b9 (pre : In_b9 -> Bool) (fn : In_b9 -> Out_b9) : Prop := Sound Tryz.prog 81 ⟨M_b9, R_b9, pre, fn⟩
section
variable (g_au : In_au -> Out_au) (g_ab : In_ab -> Out_ab) (g_a3 : In_a3 -> Out_a3) (g_b3 : In_b3 -> Out_b3) (g_b8 : In_b8 -> Out_b8) (p_b8 : In_b8 -> Bool) (g_b4 : In_b4 -> Out_b4)
abbrev X_b9 : Ctx := ctx tys 73 (conOf [(139, ⟨M_au, R_au, fun _ => true, g_au⟩), (69, ⟨M_ab, R_ab, fun _ => true, g_ab⟩), (66, ⟨M_a3, R_a3, fun _ => true, g_a3⟩), (149, ⟨M_b3, R_b3, fun _ => true, g_b3⟩), (150, ⟨M_b8, R_b8, p_b8, g_b8⟩), (151, ⟨M_b4, R_b4, fun _ => true, g_b4⟩)]) (keepOf [(pt0, (⟨[(1, .asis), (3, .asis)], [(1, .asis)], []⟩ : Keep))]) (fun _ => [])
noncomputable abbrev E_b9 (k : Nat) (x : In_b9) : Option Out_b9 := evFn (X_b9 g_au g_ab g_a3 g_b3 g_b8 p_b8 g_b4) Tryz.f81 R_b9 M_b9 k x
def h0_b9 (x0 : Dm (.imm S_TstTest)) (h0 : Dn I) : St := mkS [(1, (AV.ptr 1 none [])), (3, (AV.val I h0))] [(1, (Ob.box S_TstTest (AV.val S_TstTest x0)))]
noncomputable def r_b9 (x : In_b9) (k : Nat) (p : List Bool) (s : St) : Option Out_b9 := rounds (X_b9 g_au g_ab g_a3 g_b3 g_b8 p_b8 g_b4) Tryz.f81 R_b9 M_b9 x k p s
variable {g_au g_ab g_a3 g_b3 g_b8 p_b8 g_b4}
theorem ev_b9 (k : Nat) (x0 : Dm (.imm S_TstTest)) : E_b9 g_au g_ab g_a3 g_b3 g_b8 p_b8 g_b4 k (x0, ()) =
  (bif (bif (g_au (x0.1, ())).1 then false else true) then (some (false, ())) else (bif (bif (g_ab (x0.2.2.1, ())).1 then false else true) then (some (false, ())) else (bif (bif (g_a3 (x0.2.2.2.1, ((0 : Int), ((3 : Int), ())))).1 then false else true) then (some (false, ())) else (bif (decide ((g_b3 (x0.2.2.2.1, ())).1 < (List.length x0.2.2.2.2 : Int))) then (some (false, ())) else (r_b9 g_au g_ab g_a3 g_b3 g_b8 p_b8 g_b4 (x0, ()) k pt0 (h0_b9 x0 (0 : Int))))))) := by kernel_rfl
theorem rd0_b9 (k : Nat) (x0 : Dm (.imm S_TstTest)) (h0 : Dn I) : r_b9 g_au g_ab g_a3 g_b3 g_b8 p_b8 g_b4 (x0, ()) (k + 1) pt0 (h0_b9 x0 h0) =
  (bif (decide (h0 < (List.length x0.2.2.2.2 : Int))) then (bif (bif (decide ((0 : Int) <= h0)) then (decide (h0 < (List.length x0.2.2.2.2 : Int))) else false) then (bif (bif (g_ab ((rdL (e := S_DecDec) x0.2.2.2.2 h0), ())).1 then false else true) then (some (false, ())) else (r_b9 g_au g_ab g_a3 g_b3 g_b8 p_b8 g_b4 (x0, ()) k pt0 (h0_b9 x0 (w64 (h0 + (1 : Int)))))) else none) else (bif (decide (x0.2.1 = (0 : Int))) then (bif (Sh.beq S_DecDec x0.2.2.1 ((0 : Int), (0 : Int))) then (some ((decide (x0.2.2.2.1 = (0 : Int))), ())) else (some (false, ()))) else (bif (p_b8 (x0, ())) then (bif (decide (x0.2.1 = (g_b8 (x0, ())).1)) then (bif (decide (x0.2.2.2.1 = (0 : Int))) then (some (true, ())) else (some ((bif (g_b4 (x0.1, (x0.2.2.1, ()))).1 then false else true), ()))) else (some (false, ()))) else none))) := by kernel_rfl
theorem S_b9 (h_au : C_au (fun _ => true) g_au) (h_ab : C_ab (fun _ => true) g_ab) (h_a3 : C_a3 (fun _ => true) g_a3) (h_b3 : C_b3 (fun _ => true) g_b3) (h_b8 : C_b8 p_b8 g_b8) (h_b4 : C_b4 (fun _ => true) g_b4) {pre : In_b9 -> Bool} {fn : In_b9 -> Out_b9} (hev : ∀ x, pre x = true -> ∃ k, E_b9 g_au g_ab g_a3 g_b3 g_b8 p_b8 g_b4 k x = some (fn x)) : C_b9 pre fn := sound tysOk mixed (fn := Tryz.f81) rfl rfl rfl (.cons h_au (.cons h_ab (.cons h_a3 (.cons h_b3 (.cons h_b8 (.cons h_b4 .nil)))))) _ hev
end
/-! ba: sl6Gate -/
abbrev M_ba : List Vm.Mode := [.imm S_BatBatch]
abbrev R_ba : List (RK × Sh) := [(.imm, .bool)]
abbrev In_ba : Type := (insSh M_ba).den
abbrev Out_ba : Type := (outSh R_ba M_ba).den
abbrev C_ba (pre : In_ba -> Bool) (fn : In_ba -> Out_ba) : Prop := Sound Tryz.prog 80 ⟨M_ba, R_ba, pre, fn⟩
section
variable (g_ak : In_ak -> Out_ak) (p_ak : In_ak -> Bool)
abbrev X_ba : Ctx := ctx tys 33 (conOf [(148, ⟨M_ak, R_ak, p_ak, g_ak⟩)]) (keepOf [(pt0, (⟨[(1, .asis), (4, .asis)], [(1, .asis)], []⟩ : Keep)), (pt1, (⟨[(1, .asis), (3, .asis)], [(1, .asis)], []⟩ : Keep))]) (fun _ => [])
noncomputable abbrev E_ba (k : Nat) (x : In_ba) : Option Out_ba := evFn (X_ba g_ak p_ak) Tryz.f80 R_ba M_ba k x
def h0_ba (x0 : Dm (.imm S_BatBatch)) (h0 : Dn I) : St := mkS [(1, (AV.ptr 1 none [])), (3, (AV.val I h0))] [(1, (Ob.box S_BatBatch (AV.val S_BatBatch x0)))]
def h1_ba (x0 : Dm (.imm S_BatBatch)) (h0 : Dn I) : St := mkS [(1, (AV.ptr 1 none [])), (4, (AV.val I h0))] [(1, (Ob.box S_BatBatch (AV.val S_BatBatch x0)))]
noncomputable def r_ba (x : In_ba) (k : Nat) (p : List Bool) (s : St) : Option Out_ba := rounds (X_ba g_ak p_ak) Tryz.f80 R_ba M_ba x k p s
variable {g_ak p_ak}
theorem ev_ba (k : Nat) (x0 : Dm (.imm S_BatBatch)) : E_ba g_ak p_ak k (x0, ()) =
  (r_ba g_ak p_ak (x0, ()) k pt1 (h0_ba x0 (0 : Int))) := by kernel_rfl
theorem rd0_ba (k : Nat) (x0 : Dm (.imm S_BatBatch)) (h0 : Dn I) : r_ba g_ak p_ak (x0, ()) (k + 1) pt1 (h0_ba x0 h0) =
  (bif (decide (h0 < (List.length x0.2.2.1 : Int))) then (bif (bif (decide ((0 : Int) <= h0)) then (decide (h0 < (List.length x0.2.2.1 : Int))) else false) then (bif (bif (decide ((rdL (e := S_TstTest) x0.2.2.1 h0).2.1 = (3 : Int))) then false else true) then (some (false, ())) else (r_ba g_ak p_ak (x0, ()) k pt1 (h0_ba x0 (w64 (h0 + (1 : Int)))))) else none) else (r_ba g_ak p_ak (x0, ()) k pt0 (h1_ba x0 (0 : Int)))) := by kernel_rfl
theorem rd1_ba (k : Nat) (x0 : Dm (.imm S_BatBatch)) (h0 : Dn I) : r_ba g_ak p_ak (x0, ()) (k + 1) pt0 (h1_ba x0 h0) =
  (bif (decide (h0 < (List.length x0.2.2.2.2.2 : Int))) then (bif (bif (decide ((0 : Int) <= h0)) then (decide (h0 < (List.length x0.2.2.2.2.2 : Int))) else false) then (bif (rdL (e := Sh.bool) x0.2.2.2.2.2 h0) then (some (false, ())) else (r_ba g_ak p_ak (x0, ()) k pt0 (h1_ba x0 (w64 (h0 + (1 : Int)))))) else none) else (cl (p_ak (x0, ())) (g_ak (x0, ())) fun y0 => (some (y0.1, ())))) := by kernel_rfl
theorem S_ba (h_ak : C_ak p_ak g_ak) {pre : In_ba -> Bool} {fn : In_ba -> Out_ba} (hev : ∀ x, pre x = true -> ∃ k, E_ba g_ak p_ak k x = some (fn x)) : C_ba pre fn := sound tysOk mixed (fn := Tryz.f80) rfl rfl rfl (.cons h_ak .nil) _ hev
end
/-! bb: sBatOk -/
abbrev M_bb : List Vm.Mode := [.imm S_BatBatch]
abbrev R_bb : List (RK × Sh) := [(.imm, .bool)]
abbrev In_bb : Type := (insSh M_bb).den
abbrev Out_bb : Type := (outSh R_bb M_bb).den
abbrev C_bb (pre : In_bb -> Bool) (fn : In_bb -> Out_bb) : Prop := Sound Tryz.prog 28 ⟨M_bb, R_bb, pre, fn⟩
section
variable (g_a3 : In_a3 -> Out_a3) (g_b9 : In_b9 -> Out_b9) (g_ba : In_ba -> Out_ba) (p_ba : In_ba -> Bool)
abbrev X_bb : Ctx := ctx tys 121 (conOf [(66, ⟨M_a3, R_a3, fun _ => true, g_a3⟩), (81, ⟨M_b9, R_b9, fun _ => true, g_b9⟩), (80, ⟨M_ba, R_ba, p_ba, g_ba⟩)]) (keepOf [(pt2, (⟨[(1, .asis), (4, .asis)], [(1, .asis)], []⟩ : Keep)), (pt0, (⟨[(1, .asis), (3, .asis)], [(1, .asis)], []⟩ : Keep))]) (fun _ => [])
noncomputable abbrev E_bb (k : Nat) (x : In_bb) : Option Out_bb := evFn (X_bb g_a3 g_b9 g_ba p_ba) Tryz.f28 R_bb M_bb k x
def h0_bb (x0 : Dm (.imm S_BatBatch)) (h0 : Dn I) : St := mkS [(1, (AV.ptr 1 none [])), (3, (AV.val I h0))] [(1, (Ob.box S_BatBatch (AV.val S_BatBatch x0)))]
def h1_bb (x0 : Dm (.imm S_BatBatch)) (h0 : Dn I) : St := mkS [(1, (AV.ptr 1 none [])), (4, (AV.val I h0))] [(1, (Ob.box S_BatBatch (AV.val S_BatBatch x0)))]
noncomputable def r_bb (x : In_bb) (k : Nat) (p : List Bool) (s : St) : Option Out_bb := rounds (X_bb g_a3 g_b9 g_ba p_ba) Tryz.f28 R_bb M_bb x k p s
variable {g_a3 g_b9 g_ba p_ba}
theorem ev_bb (k : Nat) (x0 : Dm (.imm S_BatBatch)) : E_bb g_a3 g_b9 g_ba p_ba k (x0, ()) =
  (bif (bif (g_a3 (x0.1, ((0 : Int), ((5 : Int), ())))).1 then false else true) then (some (false, ())) else (bif (bif (g_a3 (x0.2.1, ((1 : Int), ((10000 : Int), ())))).1 then false else true) then (some (false, ())) else (bif (bif (g_a3 ((List.length x0.2.2.1 : Int), ((1 : Int), ((4 : Int), ())))).1 then false else true) then (some (false, ())) else (bif (bif (g_a3 (x0.2.2.2.1, ((1 : Int), ((4 : Int), ())))).1 then false else true) then (some (false, ())) else (bif (decide ((6 : Int) < (List.length x0.2.2.2.2.1 : Int))) then (some (false, ())) else (bif (decide ((3 : Int) < (List.length x0.2.2.2.2.2 : Int))) then (some (false, ())) else (r_bb g_a3 g_b9 g_ba p_ba (x0, ()) k pt0 (h0_bb x0 (0 : Int))))))))) := by kernel_rfl
theorem rd0_bb (k : Nat) (x0 : Dm (.imm S_BatBatch)) (h0 : Dn I) : r_bb g_a3 g_b9 g_ba p_ba (x0, ()) (k + 1) pt0 (h0_bb x0 h0) =
  (bif (decide (h0 < (List.length x0.2.2.1 : Int))) then (bif (bif (decide ((0 : Int) <= h0)) then (decide (h0 < (List.length x0.2.2.1 : Int))) else false) then (bif (bif (g_b9 ((rdL (e := S_TstTest) x0.2.2.1 h0), ())).1 then false else true) then (some (false, ())) else (bif (decide ((0 : Int) < h0)) then (bif (bif (decide ((0 : Int) <= (w64 (h0 - (1 : Int))))) then (decide ((w64 (h0 - (1 : Int))) < (List.length x0.2.2.1 : Int))) else false) then (bif (bif (decide ((0 : Int) <= h0)) then (decide (h0 < (List.length x0.2.2.1 : Int))) else false) then (bif (decide ((rdL (e := S_TstTest) x0.2.2.1 h0).1.1 <= (rdL (e := S_TstTest) x0.2.2.1 (w64 (h0 - (1 : Int)))).1.1)) then (some (false, ())) else (r_bb g_a3 g_b9 g_ba p_ba (x0, ()) k pt0 (h0_bb x0 (w64 (h0 + (1 : Int)))))) else none) else none) else (r_bb g_a3 g_b9 g_ba p_ba (x0, ()) k pt0 (h0_bb x0 (w64 (h0 + (1 : Int))))))) else none) else (r_bb g_a3 g_b9 g_ba p_ba (x0, ()) k pt2 (h1_bb x0 (0 : Int)))) := by kernel_rfl
theorem rd1_bb (k : Nat) (x0 : Dm (.imm S_BatBatch)) (h0 : Dn I) : r_bb g_a3 g_b9 g_ba p_ba (x0, ()) (k + 1) pt2 (h1_bb x0 h0) =
  (bif (decide (h0 < (List.length x0.2.2.2.2.1 : Int))) then (bif (bif (decide ((0 : Int) <= h0)) then (decide (h0 < (List.length x0.2.2.2.2.1 : Int))) else false) then (bif (bif (g_a3 ((rdL (e := S_BatSig) x0.2.2.2.2.1 h0).1, ((1 : Int), ((5 : Int), ())))).1 then false else true) then (some (false, ())) else (bif (bif (decide ((rdL (e := S_BatSig) x0.2.2.2.2.1 h0).2.1 = (2 : Int))) then false else true) then (bif (bif (decide ((rdL (e := S_BatSig) x0.2.2.2.2.1 h0).2.1 = (3 : Int))) then false else true) then (some (false, ())) else (bif (bif (g_a3 ((rdL (e := S_BatSig) x0.2.2.2.2.1 h0).2.2, ((0 : Int), ((999982 : Int), ())))).1 then false else true) then (some (false, ())) else (r_bb g_a3 g_b9 g_ba p_ba (x0, ()) k pt2 (h1_bb x0 (w64 (h0 + (1 : Int))))))) else (bif (bif (g_a3 ((rdL (e := S_BatSig) x0.2.2.2.2.1 h0).2.2, ((0 : Int), ((999982 : Int), ())))).1 then false else true) then (some (false, ())) else (r_bb g_a3 g_b9 g_ba p_ba (x0, ()) k pt2 (h1_bb x0 (w64 (h0 + (1 : Int)))))))) else none) else (bif (bif (decide (x0.2.2.2.1 = (2 : Int))) then false else true) then (bif (bif (decide (x0.2.2.2.1 = (4 : Int))) then false else true) then (some (true, ())) else (cl (p_ba (x0, ())) (g_ba (x0, ())) fun y0 => (some (y0.1, ())))) else (cl (p_ba (x0, ())) (g_ba (x0, ())) fun y1 => (some (y1.1, ()))))) := by kernel_rfl
theorem S_bb (h_a3 : C_a3 (fun _ => true) g_a3) (h_b9 : C_b9 (fun _ => true) g_b9) (h_ba : C_ba p_ba g_ba) {pre : In_bb -> Bool} {fn : In_bb -> Out_bb} (hev : ∀ x, pre x = true -> ∃ k, E_bb g_a3 g_b9 g_ba p_ba k x = some (fn x)) : C_bb pre fn := sound tysOk mixed (fn := Tryz.f28) rfl rfl rfl (.cons h_a3 (.cons h_b9 (.cons h_ba .nil))) _ hev
end
/-! bc: sTstPut -/
abbrev M_bc : List Vm.Mode := [.imm S_TstTest, .imm S_DecDec]
abbrev R_bc : List (RK × Sh) := [(.own, S_TstTest), (.imm, .bool)]
abbrev In_bc : Type := (insSh M_bc).den
abbrev Out_bc : Type := (outSh R_bc M_bc).den
abbrev C_bc (pre : In_bc -> Bool) (fn : In_bc -> Out_bc) : Prop := Sound Tryz.prog 160 ⟨M_bc, R_bc, pre, fn⟩
section
variable (g_aq : In_aq -> Out_aq) (p_aq : In_aq -> Bool) (g_b9 : In_b9 -> Out_b9) (g_ab : In_ab -> Out_ab) (g_b8 : In_b8 -> Out_b8) (p_b8 : In_b8 -> Bool)
abbrev X_bc : Ctx := ctx tys 29 (conOf [(152, ⟨M_aq, R_aq, p_aq, g_aq⟩), (81, ⟨M_b9, R_b9, fun _ => true, g_b9⟩), (69, ⟨M_ab, R_ab, fun _ => true, g_ab⟩), (150, ⟨M_b8, R_b8, p_b8, g_b8⟩)]) (keepOf []) (fun _ => [])
noncomputable abbrev E_bc (k : Nat) (x : In_bc) : Option Out_bc := evFn (X_bc g_aq p_aq g_b9 g_ab g_b8 p_b8) Tryz.f160 R_bc M_bc k x
variable {g_aq p_aq g_b9 g_ab g_b8 p_b8}
theorem ev_bc (k : Nat) (x0 : Dm (.imm S_TstTest)) (x1 : Dm (.imm S_DecDec)) : E_bc g_aq p_aq g_b9 g_ab g_b8 p_b8 k (x0, x1, ()) =
  (cl (p_aq (x0, ())) (g_aq (x0, ())) fun y0 => (bif (bif (g_b9 (x0, ())).1 then false else true) then (some (y0.1, (false, ()))) else (bif (bif (g_ab (x1, ())).1 then false else true) then (some (y0.1, (false, ()))) else (bif (bif (decide (x0.2.1 = (0 : Int))) then false else true) then (some (y0.1, (false, ()))) else (cl (p_b8 ((y0.1.1, (y0.1.2.1, (x1, y0.1.2.2.2))), ())) (g_b8 ((y0.1.1, (y0.1.2.1, (x1, y0.1.2.2.2))), ())) fun y1 => (some ((y0.1.1, (y1.1, (x1, y0.1.2.2.2))), (true, ())))))))) := by kernel_rfl
theorem S_bc (h_aq : C_aq p_aq g_aq) (h_b9 : C_b9 (fun _ => true) g_b9) (h_ab : C_ab (fun _ => true) g_ab) (h_b8 : C_b8 p_b8 g_b8) {pre : In_bc -> Bool} {fn : In_bc -> Out_bc} (hev : ∀ x, pre x = true -> ∃ k, E_bc g_aq p_aq g_b9 g_ab g_b8 p_b8 k x = some (fn x)) : C_bc pre fn := sound tysOk mixed (fn := Tryz.f160) rfl rfl rfl (.cons h_aq (.cons h_b9 (.cons h_ab (.cons h_b8 .nil)))) _ hev
end
/-! bd: sTstCause -/
abbrev M_bd : List Vm.Mode := [.imm S_TstTest, .imm I]
abbrev R_bd : List (RK × Sh) := [(.own, S_TstTest), (.imm, .bool)]
abbrev In_bd : Type := (insSh M_bd).den
abbrev Out_bd : Type := (outSh R_bd M_bd).den
abbrev C_bd (pre : In_bd -> Bool) (fn : In_bd -> Out_bd) : Prop := Sound Tryz.prog 161 ⟨M_bd, R_bd, pre, fn⟩
section
variable (g_aq : In_aq -> Out_aq) (p_aq : In_aq -> Bool) (g_b9 : In_b9 -> Out_b9) (g_a3 : In_a3 -> Out_a3) (g_b8 : In_b8 -> Out_b8) (p_b8 : In_b8 -> Bool)
abbrev X_bd : Ctx := ctx tys 29 (conOf [(152, ⟨M_aq, R_aq, p_aq, g_aq⟩), (81, ⟨M_b9, R_b9, fun _ => true, g_b9⟩), (66, ⟨M_a3, R_a3, fun _ => true, g_a3⟩), (150, ⟨M_b8, R_b8, p_b8, g_b8⟩)]) (keepOf []) (fun _ => [])
noncomputable abbrev E_bd (k : Nat) (x : In_bd) : Option Out_bd := evFn (X_bd g_aq p_aq g_b9 g_a3 g_b8 p_b8) Tryz.f161 R_bd M_bd k x
variable {g_aq p_aq g_b9 g_a3 g_b8 p_b8}
theorem ev_bd (k : Nat) (x0 : Dm (.imm S_TstTest)) (x1 : Dm (.imm I)) : E_bd g_aq p_aq g_b9 g_a3 g_b8 p_b8 k (x0, x1, ()) =
  (cl (p_aq (x0, ())) (g_aq (x0, ())) fun y0 => (bif (bif (g_b9 (x0, ())).1 then false else true) then (some (y0.1, (false, ()))) else (bif (bif (decide (x0.2.1 = (1 : Int))) then false else true) then (some (y0.1, (false, ()))) else (bif (bif (g_a3 (x1, ((1 : Int), ((3 : Int), ())))).1 then false else true) then (some (y0.1, (false, ()))) else (cl (p_b8 ((y0.1.1, (y0.1.2.1, (y0.1.2.2.1, (x1, y0.1.2.2.2.2)))), ())) (g_b8 ((y0.1.1, (y0.1.2.1, (y0.1.2.2.1, (x1, y0.1.2.2.2.2)))), ())) fun y1 => (some ((y0.1.1, (y1.1, (y0.1.2.2.1, (x1, y0.1.2.2.2.2)))), (true, ())))))))) := by kernel_rfl
theorem S_bd (h_aq : C_aq p_aq g_aq) (h_b9 : C_b9 (fun _ => true) g_b9) (h_a3 : C_a3 (fun _ => true) g_a3) (h_b8 : C_b8 p_b8 g_b8) {pre : In_bd -> Bool} {fn : In_bd -> Out_bd} (hev : ∀ x, pre x = true -> ∃ k, E_bd g_aq p_aq g_b9 g_a3 g_b8 p_b8 k x = some (fn x)) : C_bd pre fn := sound tysOk mixed (fn := Tryz.f161) rfl rfl rfl (.cons h_aq (.cons h_b9 (.cons h_a3 (.cons h_b8 .nil)))) _ hev
end
/-! be: sTstMore -/
abbrev M_be : List Vm.Mode := [.imm S_TstTest, .imm S_DecDec]
abbrev R_be : List (RK × Sh) := [(.own, S_TstTest), (.imm, .bool)]
abbrev In_be : Type := (insSh M_be).den
abbrev Out_be : Type := (outSh R_be M_be).den
abbrev C_be (pre : In_be -> Bool) (fn : In_be -> Out_be) : Prop := Sound Tryz.prog 162 ⟨M_be, R_be, pre, fn⟩
section
variable (g_aq : In_aq -> Out_aq) (p_aq : In_aq -> Bool) (g_b9 : In_b9 -> Out_b9) (g_ab : In_ab -> Out_ab) (g_b8 : In_b8 -> Out_b8) (p_b8 : In_b8 -> Bool)
abbrev X_be : Ctx := ctx tys 33 (conOf [(152, ⟨M_aq, R_aq, p_aq, g_aq⟩), (81, ⟨M_b9, R_b9, fun _ => true, g_b9⟩), (69, ⟨M_ab, R_ab, fun _ => true, g_ab⟩), (150, ⟨M_b8, R_b8, p_b8, g_b8⟩)]) (keepOf []) (fun _ => [])
noncomputable abbrev E_be (k : Nat) (x : In_be) : Option Out_be := evFn (X_be g_aq p_aq g_b9 g_ab g_b8 p_b8) Tryz.f162 R_be M_be k x
variable {g_aq p_aq g_b9 g_ab g_b8 p_b8}
theorem ev_be (k : Nat) (x0 : Dm (.imm S_TstTest)) (x1 : Dm (.imm S_DecDec)) : E_be g_aq p_aq g_b9 g_ab g_b8 p_b8 k (x0, x1, ()) =
  (cl (p_aq (x0, ())) (g_aq (x0, ())) fun y0 => (bif (bif (g_b9 (x0, ())).1 then false else true) then (some (y0.1, (false, ()))) else (bif (bif (decide (x0.2.1 = (2 : Int))) then false else true) then (some (y0.1, (false, ()))) else (bif (bif (g_ab (x1, ())).1 then false else true) then (some (y0.1, (false, ()))) else (bif (fitL y0.1.2.2.2.2 [x1]) then (cl (p_b8 ((y0.1.1, (y0.1.2.1, (y0.1.2.2.1, (y0.1.2.2.2.1, (List.append y0.1.2.2.2.2 [x1]))))), ())) (g_b8 ((y0.1.1, (y0.1.2.1, (y0.1.2.2.1, (y0.1.2.2.2.1, (List.append y0.1.2.2.2.2 [x1]))))), ())) fun y1 => (some ((y0.1.1, (y1.1, (y0.1.2.2.1, (y0.1.2.2.2.1, (List.append y0.1.2.2.2.2 [x1]))))), (true, ())))) else none))))) := by kernel_rfl
theorem S_be (h_aq : C_aq p_aq g_aq) (h_b9 : C_b9 (fun _ => true) g_b9) (h_ab : C_ab (fun _ => true) g_ab) (h_b8 : C_b8 p_b8 g_b8) {pre : In_be -> Bool} {fn : In_be -> Out_be} (hev : ∀ x, pre x = true -> ∃ k, E_be g_aq p_aq g_b9 g_ab g_b8 p_b8 k x = some (fn x)) : C_be pre fn := sound tysOk mixed (fn := Tryz.f162) rfl rfl rfl (.cons h_aq (.cons h_b9 (.cons h_ab (.cons h_b8 .nil)))) _ hev
end
/-! bf: sl6Turn -/
abbrev M_bf : List Vm.Mode := [.imm S_TstTest, .imm I, .imm S_DecDec, .imm I]
abbrev R_bf : List (RK × Sh) := [(.own, S_TstTest), (.imm, .bool)]
abbrev In_bf : Type := (insSh M_bf).den
abbrev Out_bf : Type := (outSh R_bf M_bf).den
abbrev C_bf (pre : In_bf -> Bool) (fn : In_bf -> Out_bf) : Prop := Sound Tryz.prog 98 ⟨M_bf, R_bf, pre, fn⟩
section
variable (g_bc : In_bc -> Out_bc) (p_bc : In_bc -> Bool) (g_bd : In_bd -> Out_bd) (p_bd : In_bd -> Bool) (g_be : In_be -> Out_be) (p_be : In_be -> Bool) (g_aq : In_aq -> Out_aq) (p_aq : In_aq -> Bool)
abbrev X_bf : Ctx := ctx tys 34 (conOf [(160, ⟨M_bc, R_bc, p_bc, g_bc⟩), (161, ⟨M_bd, R_bd, p_bd, g_bd⟩), (162, ⟨M_be, R_be, p_be, g_be⟩), (152, ⟨M_aq, R_aq, p_aq, g_aq⟩)]) (keepOf []) (fun _ => [])
noncomputable abbrev E_bf (k : Nat) (x : In_bf) : Option Out_bf := evFn (X_bf g_bc p_bc g_bd p_bd g_be p_be g_aq p_aq) Tryz.f98 R_bf M_bf k x
variable {g_bc p_bc g_bd p_bd g_be p_be g_aq p_aq}
theorem ev_bf (k : Nat) (x0 : Dm (.imm S_TstTest)) (x1 : Dm (.imm I)) (x2 : Dm (.imm S_DecDec)) (x3 : Dm (.imm I)) : E_bf g_bc p_bc g_bd p_bd g_be p_be g_aq p_aq k (x0, x1, x2, x3, ()) =
  (bif (decide (x1 = (1 : Int))) then (cl (p_bc (x0, (x2, ()))) (g_bc (x0, (x2, ()))) fun y0 => (some (y0.1, (y0.2.1, ())))) else (bif (decide (x1 = (2 : Int))) then (cl (p_bd (x0, (x3, ()))) (g_bd (x0, (x3, ()))) fun y1 => (some (y1.1, (y1.2.1, ())))) else (bif (decide (x1 = (3 : Int))) then (cl (p_be (x0, (x2, ()))) (g_be (x0, (x2, ()))) fun y2 => (some (y2.1, (y2.2.1, ())))) else (cl (p_aq (x0, ())) (g_aq (x0, ())) fun y3 => (some (y3.1, (false, ()))))))) := by kernel_rfl
theorem S_bf (h_bc : C_bc p_bc g_bc) (h_bd : C_bd p_bd g_bd) (h_be : C_be p_be g_be) (h_aq : C_aq p_aq g_aq) {pre : In_bf -> Bool} {fn : In_bf -> Out_bf} (hev : ∀ x, pre x = true -> ∃ k, E_bf g_bc p_bc g_bd p_bd g_be p_be g_aq p_aq k x = some (fn x)) : C_bf pre fn := sound tysOk mixed (fn := Tryz.f98) rfl rfl rfl (.cons h_bc (.cons h_bd (.cons h_be (.cons h_aq .nil)))) _ hev
end
/-! bg: sBatTest -/
abbrev M_bg : List Vm.Mode := [.imm S_BatBatch, .imm I, .imm I, .imm S_DecDec, .imm I]
abbrev R_bg : List (RK × Sh) := [(.own, S_BatBatch), (.imm, .bool)]
abbrev In_bg : Type := (insSh M_bg).den
abbrev Out_bg : Type := (outSh R_bg M_bg).den
abbrev C_bg (pre : In_bg -> Bool) (fn : In_bg -> Out_bg) : Prop := Sound Tryz.prog 40 ⟨M_bg, R_bg, pre, fn⟩
section
variable (g_ar : In_ar -> Out_ar) (p_ar : In_ar -> Bool) (g_bb : In_bb -> Out_bb) (p_bb : In_bb -> Bool) (g_bf : In_bf -> Out_bf) (p_bf : In_bf -> Bool)
abbrev X_bg : Ctx := ctx tys 63 (conOf [(86, ⟨M_ar, R_ar, p_ar, g_ar⟩), (28, ⟨M_bb, R_bb, p_bb, g_bb⟩), (98, ⟨M_bf, R_bf, p_bf, g_bf⟩)]) (keepOf [(pt2, (⟨[(1, .asis), (2, .asis), (4, .asis), (5, .asis), (8, .asis), (10, .asis), (12, .asis), (13, .asis)], [(5, .asis), (8, .asis), (10, (.pair .asis (.pair .asis (.pair .own (.pair .asis (.pair .own .own)))))), (12, (.pair .asis (.pair .asis (.pair .own (.pair .asis (.pair .own .own))))))], []⟩ : Keep))]) (fun _ => [])
noncomputable abbrev E_bg (k : Nat) (x : In_bg) : Option Out_bg := evFn (X_bg g_ar p_ar g_bb p_bb g_bf p_bf) Tryz.f40 R_bg M_bg k x
def h0_bg (x0 : Dm (.imm S_BatBatch)) (x1 : Dm (.imm I)) (x2 : Dm (.imm I)) (x3 : Dm (.imm S_DecDec)) (x4 : Dm (.imm I)) (h0 : Dn I) (h1 : Dn I) (h2 : Dn I) (h3 : Dn I) (h4 : (List (Dn S_TstTest))) (h5 : (List (Dn S_BatSig))) (h6 : (List (Dn Sh.bool))) (h7 : Dn I) (h8 : Dn I) (h9 : Dn I) (h10 : (List (Dn S_TstTest))) (h11 : (List (Dn S_BatSig))) (h12 : (List (Dn Sh.bool))) : St := mkS [(1, (AV.val I x1)), (2, (AV.val I x2)), (4, (AV.val I x4)), (5, (AV.ptr 5 none [])), (8, (AV.ptr 8 none [])), (10, (AV.ptr 10 none [])), (12, (AV.ptr 12 none [])), (13, (AV.val I h0))] [(5, (Ob.box S_BatBatch (AV.val S_BatBatch x0))), (8, (Ob.box S_DecDec (AV.val S_DecDec x3))), (10, (Ob.box S_BatBatch (AV.pair (AV.val I h1) (AV.pair (AV.val I h2) (AV.pair (AV.sref 2510 none []) (AV.pair (AV.val I h3) (AV.pair (AV.sref 12510 none []) (AV.sref 22510 none [])))))))), (2510, (Ob.arr 56 S_TstTest h4)), (12510, (Ob.arr 58 S_BatSig h5)), (22510, (Ob.arr 4 Sh.bool h6)), (12, (Ob.box S_BatBatch (AV.pair (AV.val I h7) (AV.pair (AV.val I h8) (AV.pair (AV.sref 2512 none []) (AV.pair (AV.val I h9) (AV.pair (AV.sref 12512 none []) (AV.sref 22512 none [])))))))), (2512, (Ob.arr 56 S_TstTest h10)), (12512, (Ob.arr 58 S_BatSig h11)), (22512, (Ob.arr 4 Sh.bool h12))]
noncomputable def r_bg (x : In_bg) (k : Nat) (p : List Bool) (s : St) : Option Out_bg := rounds (X_bg g_ar p_ar g_bb p_bb g_bf p_bf) Tryz.f40 R_bg M_bg x k p s
variable {g_ar p_ar g_bb p_bb g_bf p_bf}
theorem ev_bg (k : Nat) (x0 : Dm (.imm S_BatBatch)) (x1 : Dm (.imm I)) (x2 : Dm (.imm I)) (x3 : Dm (.imm S_DecDec)) (x4 : Dm (.imm I)) : E_bg g_ar p_ar g_bb p_bb g_bf p_bf k (x0, x1, x2, x3, x4, ()) =
  (cl (p_ar (x0, ())) (g_ar (x0, ())) fun y0 => (cl (p_bb (x0, ())) (g_bb (x0, ())) fun y1 => (bif (bif y1.1 then false else true) then (some (y0.1, (false, ()))) else (bif (bif (decide (x0.2.2.2.1 = (1 : Int))) then false else true) then (some (y0.1, (false, ()))) else (r_bg g_ar p_ar g_bb p_bb g_bf p_bf (x0, x1, x2, x3, x4, ()) k pt2 (h0_bg x0 x1 x2 x3 x4 (0 : Int) (0 : Int) (0 : Int) (0 : Int) [] [] [] (y0.1.1) (y0.1.2.1) (y0.1.2.2.2.1) (y0.1.2.2.1) (y0.1.2.2.2.2.1) (y0.1.2.2.2.2.2))))))) := by kernel_rfl
theorem rd0_bg (k : Nat) (x0 : Dm (.imm S_BatBatch)) (x1 : Dm (.imm I)) (x2 : Dm (.imm I)) (x3 : Dm (.imm S_DecDec)) (x4 : Dm (.imm I)) (h0 : Dn I) (h1 : Dn I) (h2 : Dn I) (h3 : Dn I) (h4 : (List (Dn S_TstTest))) (h5 : (List (Dn S_BatSig))) (h6 : (List (Dn Sh.bool))) (h7 : Dn I) (h8 : Dn I) (h9 : Dn I) (h10 : (List (Dn S_TstTest))) (h11 : (List (Dn S_BatSig))) (h12 : (List (Dn Sh.bool))) : r_bg g_ar p_ar g_bb p_bb g_bf p_bf (x0, x1, x2, x3, x4, ()) (k + 1) pt2 (h0_bg x0 x1 x2 x3 x4 h0 h1 h2 h3 h4 h5 h6 h7 h8 h9 h10 h11 h12) =
  (bif (decide (h0 < (List.length x0.2.2.1 : Int))) then (bif (bif (decide ((0 : Int) <= h0)) then (decide (h0 < (List.length x0.2.2.1 : Int))) else false) then (bif (decide ((rdL (e := S_TstTest) x0.2.2.1 h0).1.1 = x1)) then (bif (bif (decide ((0 : Int) <= h0)) then (decide (h0 < (List.length x0.2.2.1 : Int))) else false) then (cl (p_bf ((rdL (e := S_TstTest) x0.2.2.1 h0), (x2, (x3, (x4, ()))))) (g_bf ((rdL (e := S_TstTest) x0.2.2.1 h0), (x2, (x3, (x4, ()))))) fun y0 => (bif (bif (decide ((0 : Int) <= h0)) then (decide (h0 < (List.length h10 : Int))) else false) then (some ((h7, (h8, ((List.set h10 (Int.toNat h0) y0.1), (h9, (h11, h12))))), (y0.2.1, ()))) else none)) else none) else (r_bg g_ar p_ar g_bb p_bb g_bf p_bf (x0, x1, x2, x3, x4, ()) k pt2 (h0_bg x0 x1 x2 x3 x4 (w64 (h0 + (1 : Int))) h1 h2 h3 h4 h5 h6 h7 h8 h9 h10 h11 h12))) else none) else (some ((h7, (h8, (h10, (h9, (h11, h12))))), (false, ())))) := by kernel_rfl
theorem S_bg (h_ar : C_ar p_ar g_ar) (h_bb : C_bb p_bb g_bb) (h_bf : C_bf p_bf g_bf) {pre : In_bg -> Bool} {fn : In_bg -> Out_bg} (hev : ∀ x, pre x = true -> ∃ k, E_bg g_ar p_ar g_bb p_bb g_bf p_bf k x = some (fn x)) : C_bg pre fn := sound tysOk mixed (fn := Tryz.f40) rfl rfl rfl (.cons h_ar (.cons h_bb (.cons h_bf .nil))) _ hev
end
/-! bh: sBatDev -/
abbrev M_bh : List Vm.Mode := [.imm S_BatBatch, .imm I, .imm .bool]
abbrev R_bh : List (RK × Sh) := [(.own, S_BatBatch), (.imm, .bool)]
abbrev In_bh : Type := (insSh M_bh).den
abbrev Out_bh : Type := (outSh R_bh M_bh).den
abbrev C_bh (pre : In_bh -> Bool) (fn : In_bh -> Out_bh) : Prop := Sound Tryz.prog 37 ⟨M_bh, R_bh, pre, fn⟩
section
variable (g_ar : In_ar -> Out_ar) (p_ar : In_ar -> Bool) (g_bb : In_bb -> Out_bb) (p_bb : In_bb -> Bool) (g_a3 : In_a3 -> Out_a3)
abbrev X_bh : Ctx := ctx tys 60 (conOf [(86, ⟨M_ar, R_ar, p_ar, g_ar⟩), (28, ⟨M_bb, R_bb, p_bb, g_bb⟩), (66, ⟨M_a3, R_a3, fun _ => true, g_a3⟩)]) (keepOf []) (fun _ => [])
noncomputable abbrev E_bh (k : Nat) (x : In_bh) : Option Out_bh := evFn (X_bh g_ar p_ar g_bb p_bb g_a3) Tryz.f37 R_bh M_bh k x
variable {g_ar p_ar g_bb p_bb g_a3}
theorem ev_bh (k : Nat) (x0 : Dm (.imm S_BatBatch)) (x1 : Dm (.imm I)) (x2 : Dm (.imm .bool)) : E_bh g_ar p_ar g_bb p_bb g_a3 k (x0, x1, x2, ()) =
  (cl (p_ar (x0, ())) (g_ar (x0, ())) fun y0 => (cl (p_bb (x0, ())) (g_bb (x0, ())) fun y1 => (bif (bif y1.1 then false else true) then (some (y0.1, (false, ()))) else (bif (bif (decide (x0.2.2.2.1 = (1 : Int))) then false else true) then (some (y0.1, (false, ()))) else (bif x2 then (bif (bif (decide (x1 = (List.length x0.2.2.2.2.2 : Int))) then false else true) then (some (y0.1, (false, ()))) else (bif (decide ((List.length x0.2.2.2.2.2 : Int) = (3 : Int))) then (some (y0.1, (false, ()))) else (bif (fitL y0.1.2.2.2.2.2 [true]) then (some ((y0.1.1, (y0.1.2.1, (y0.1.2.2.1, (y0.1.2.2.2.1, (y0.1.2.2.2.2.1, (List.append y0.1.2.2.2.2.2 [true])))))), (true, ()))) else none))) else (bif (bif (g_a3 (x1, ((0 : Int), ((w64 ((List.length x0.2.2.2.2.2 : Int) - (1 : Int))), ())))).1 then false else true) then (some (y0.1, (false, ()))) else (bif (bif (decide ((0 : Int) <= x1)) then (decide (x1 < (List.length x0.2.2.2.2.2 : Int))) else false) then (bif (bif (rdL (e := Sh.bool) x0.2.2.2.2.2 x1) then false else true) then (some (y0.1, (false, ()))) else (bif (bif (decide ((0 : Int) <= x1)) then (decide (x1 < (List.length y0.1.2.2.2.2.2 : Int))) else false) then (some ((y0.1.1, (y0.1.2.1, (y0.1.2.2.1, (y0.1.2.2.2.1, (y0.1.2.2.2.2.1, (List.set y0.1.2.2.2.2.2 (Int.toNat x1) false)))))), (true, ()))) else none)) else none))))))) := by kernel_rfl
theorem S_bh (h_ar : C_ar p_ar g_ar) (h_bb : C_bb p_bb g_bb) (h_a3 : C_a3 (fun _ => true) g_a3) {pre : In_bh -> Bool} {fn : In_bh -> Out_bh} (hev : ∀ x, pre x = true -> ∃ k, E_bh g_ar p_ar g_bb p_bb g_a3 k x = some (fn x)) : C_bh pre fn := sound tysOk mixed (fn := Tryz.f37) rfl rfl rfl (.cons h_ar (.cons h_bb (.cons h_a3 .nil))) _ hev
end
/-! bi: sBatSign -/
abbrev M_bi : List Vm.Mode := [.imm S_BatBatch, .imm I, .imm I]
abbrev R_bi : List (RK × Sh) := [(.own, S_BatBatch), (.imm, .bool)]
abbrev In_bi : Type := (insSh M_bi).den
abbrev Out_bi : Type := (outSh R_bi M_bi).den
abbrev C_bi (pre : In_bi -> Bool) (fn : In_bi -> Out_bi) : Prop := Sound Tryz.prog 32 ⟨M_bi, R_bi, pre, fn⟩
section
variable (g_ar : In_ar -> Out_ar) (p_ar : In_ar -> Bool) (g_bb : In_bb -> Out_bb) (p_bb : In_bb -> Bool) (g_a3 : In_a3 -> Out_a3) (g_ai : In_ai -> Out_ai) (p_ai : In_ai -> Bool)
abbrev X_bi : Ctx := ctx tys 50 (conOf [(86, ⟨M_ar, R_ar, p_ar, g_ar⟩), (28, ⟨M_bb, R_bb, p_bb, g_bb⟩), (66, ⟨M_a3, R_a3, fun _ => true, g_a3⟩), (87, ⟨M_ai, R_ai, p_ai, g_ai⟩)]) (keepOf []) (fun _ => [])
noncomputable abbrev E_bi (k : Nat) (x : In_bi) : Option Out_bi := evFn (X_bi g_ar p_ar g_bb p_bb g_a3 g_ai p_ai) Tryz.f32 R_bi M_bi k x
variable {g_ar p_ar g_bb p_bb g_a3 g_ai p_ai}
theorem ev_bi (k : Nat) (x0 : Dm (.imm S_BatBatch)) (x1 : Dm (.imm I)) (x2 : Dm (.imm I)) : E_bi g_ar p_ar g_bb p_bb g_a3 g_ai p_ai k (x0, x1, x2, ()) =
  (cl (p_ar (x0, ())) (g_ar (x0, ())) fun y0 => (cl (p_bb (x0, ())) (g_bb (x0, ())) fun y1 => (bif (bif y1.1 then false else true) then (some (y0.1, (false, ()))) else (bif (bif (decide (x0.2.2.2.1 = (1 : Int))) then false else true) then (some (y0.1, (false, ()))) else (bif (bif (g_a3 (x1, ((1 : Int), ((5 : Int), ())))).1 then false else true) then (some (y0.1, (false, ()))) else (bif (bif (decide (x2 = (2 : Int))) then false else true) then (bif (bif (decide (x2 = (3 : Int))) then false else true) then (some (y0.1, (false, ()))) else (bif (decide ((List.length x0.2.2.2.2.1 : Int) = (6 : Int))) then (some (y0.1, (false, ()))) else (cl (p_ai (x0, ())) (g_ai (x0, ())) fun y2 => (bif (fitL y0.1.2.2.2.2.1 [(x1, (x2, y2.1))]) then (some ((y0.1.1, (y0.1.2.1, (y0.1.2.2.1, (y0.1.2.2.2.1, ((List.append y0.1.2.2.2.2.1 [(x1, (x2, y2.1))]), y0.1.2.2.2.2.2))))), (true, ()))) else none)))) else (bif (decide ((List.length x0.2.2.2.2.1 : Int) = (6 : Int))) then (some (y0.1, (false, ()))) else (cl (p_ai (x0, ())) (g_ai (x0, ())) fun y3 => (bif (fitL y0.1.2.2.2.2.1 [(x1, (x2, y3.1))]) then (some ((y0.1.1, (y0.1.2.1, (y0.1.2.2.1, (y0.1.2.2.2.1, ((List.append y0.1.2.2.2.2.1 [(x1, (x2, y3.1))]), y0.1.2.2.2.2.2))))), (true, ()))) else none))))))))) := by kernel_rfl
theorem S_bi (h_ar : C_ar p_ar g_ar) (h_bb : C_bb p_bb g_bb) (h_a3 : C_a3 (fun _ => true) g_a3) (h_ai : C_ai p_ai g_ai) {pre : In_bi -> Bool} {fn : In_bi -> Out_bi} (hev : ∀ x, pre x = true -> ∃ k, E_bi g_ar p_ar g_bb p_bb g_a3 g_ai p_ai k x = some (fn x)) : C_bi pre fn := sound tysOk mixed (fn := Tryz.f32) rfl rfl rfl (.cons h_ar (.cons h_bb (.cons h_a3 (.cons h_ai .nil)))) _ hev
end
/-! bj: sBatMove -/
abbrev M_bj : List Vm.Mode := [.imm S_BatBatch, .imm I]
abbrev R_bj : List (RK × Sh) := [(.own, S_BatBatch), (.imm, .bool)]
abbrev In_bj : Type := (insSh M_bj).den
abbrev Out_bj : Type := (outSh R_bj M_bj).den
abbrev C_bj (pre : In_bj -> Bool) (fn : In_bj -> Out_bj) : Prop := Sound Tryz.prog 184 ⟨M_bj, R_bj, pre, fn⟩
section
variable (g_ar : In_ar -> Out_ar) (p_ar : In_ar -> Bool) (g_bb : In_bb -> Out_bb) (p_bb : In_bb -> Bool) (g_ba : In_ba -> Out_ba) (p_ba : In_ba -> Bool)
abbrev X_bj : Ctx := ctx tys 55 (conOf [(86, ⟨M_ar, R_ar, p_ar, g_ar⟩), (28, ⟨M_bb, R_bb, p_bb, g_bb⟩), (80, ⟨M_ba, R_ba, p_ba, g_ba⟩)]) (keepOf []) (fun _ => [])
noncomputable abbrev E_bj (k : Nat) (x : In_bj) : Option Out_bj := evFn (X_bj g_ar p_ar g_bb p_bb g_ba p_ba) Tryz.f184 R_bj M_bj k x
variable {g_ar p_ar g_bb p_bb g_ba p_ba}
theorem ev_bj (k : Nat) (x0 : Dm (.imm S_BatBatch)) (x1 : Dm (.imm I)) : E_bj g_ar p_ar g_bb p_bb g_ba p_ba k (x0, x1, ()) =
  (cl (p_ar (x0, ())) (g_ar (x0, ())) fun y0 => (cl (p_bb (x0, ())) (g_bb (x0, ())) fun y1 => (bif (bif y1.1 then false else true) then (some (y0.1, (false, ()))) else (bif (decide (x1 = (2 : Int))) then (bif (decide (x0.2.2.2.1 = (1 : Int))) then (cl (p_ba (x0, ())) (g_ba (x0, ())) fun y2 => (bif (decide (x1 = (3 : Int))) then (bif (decide (x1 = (4 : Int))) then (bif (bif y2.1 then false else true) then (bif (bif (decide (x0.2.2.2.1 = (1 : Int))) then false else true) then (bif (bif (decide (x0.2.2.2.1 = (2 : Int))) then false else true) then (some (y0.1, (false, ()))) else (some ((y0.1.1, (y0.1.2.1, (y0.1.2.2.1, (x1, y0.1.2.2.2.2)))), (true, ())))) else (some ((y0.1.1, (y0.1.2.1, (y0.1.2.2.1, (x1, y0.1.2.2.2.2)))), (true, ())))) else (some ((y0.1.1, (y0.1.2.1, (y0.1.2.2.1, (x1, y0.1.2.2.2.2)))), (true, ())))) else (bif (bif y2.1 then false else true) then (bif (bif (decide (x0.2.2.2.1 = (1 : Int))) then false else true) then (some (y0.1, (false, ()))) else (some ((y0.1.1, (y0.1.2.1, (y0.1.2.2.1, (x1, y0.1.2.2.2.2)))), (true, ())))) else (some ((y0.1.1, (y0.1.2.1, (y0.1.2.2.1, (x1, y0.1.2.2.2.2)))), (true, ()))))) else (bif (decide (x1 = (4 : Int))) then (bif (bif y2.1 then false else true) then (bif (bif (decide (x0.2.2.2.1 = (2 : Int))) then false else true) then (some (y0.1, (false, ()))) else (some ((y0.1.1, (y0.1.2.1, (y0.1.2.2.1, (x1, y0.1.2.2.2.2)))), (true, ())))) else (some ((y0.1.1, (y0.1.2.1, (y0.1.2.2.1, (x1, y0.1.2.2.2.2)))), (true, ())))) else (bif (bif y2.1 then false else true) then (some (y0.1, (false, ()))) else (some ((y0.1.1, (y0.1.2.1, (y0.1.2.2.1, (x1, y0.1.2.2.2.2)))), (true, ()))))))) else (bif (decide (x1 = (3 : Int))) then (bif (decide (x1 = (4 : Int))) then (bif (bif (decide (x0.2.2.2.1 = (1 : Int))) then false else true) then (bif (bif (decide (x0.2.2.2.1 = (2 : Int))) then false else true) then (some (y0.1, (false, ()))) else (some ((y0.1.1, (y0.1.2.1, (y0.1.2.2.1, (x1, y0.1.2.2.2.2)))), (true, ())))) else (some ((y0.1.1, (y0.1.2.1, (y0.1.2.2.1, (x1, y0.1.2.2.2.2)))), (true, ())))) else (bif (bif (decide (x0.2.2.2.1 = (1 : Int))) then false else true) then (some (y0.1, (false, ()))) else (some ((y0.1.1, (y0.1.2.1, (y0.1.2.2.1, (x1, y0.1.2.2.2.2)))), (true, ()))))) else (bif (decide (x1 = (4 : Int))) then (bif (bif (decide (x0.2.2.2.1 = (2 : Int))) then false else true) then (some (y0.1, (false, ()))) else (some ((y0.1.1, (y0.1.2.1, (y0.1.2.2.1, (x1, y0.1.2.2.2.2)))), (true, ())))) else (some (y0.1, (false, ())))))) else (bif (decide (x1 = (3 : Int))) then (bif (decide (x1 = (4 : Int))) then (bif (bif (decide (x0.2.2.2.1 = (1 : Int))) then false else true) then (bif (bif (decide (x0.2.2.2.1 = (2 : Int))) then false else true) then (some (y0.1, (false, ()))) else (some ((y0.1.1, (y0.1.2.1, (y0.1.2.2.1, (x1, y0.1.2.2.2.2)))), (true, ())))) else (some ((y0.1.1, (y0.1.2.1, (y0.1.2.2.1, (x1, y0.1.2.2.2.2)))), (true, ())))) else (bif (bif (decide (x0.2.2.2.1 = (1 : Int))) then false else true) then (some (y0.1, (false, ()))) else (some ((y0.1.1, (y0.1.2.1, (y0.1.2.2.1, (x1, y0.1.2.2.2.2)))), (true, ()))))) else (bif (decide (x1 = (4 : Int))) then (bif (bif (decide (x0.2.2.2.1 = (2 : Int))) then false else true) then (some (y0.1, (false, ()))) else (some ((y0.1.1, (y0.1.2.1, (y0.1.2.2.1, (x1, y0.1.2.2.2.2)))), (true, ())))) else (some (y0.1, (false, ()))))))))) := by kernel_rfl
theorem S_bj (h_ar : C_ar p_ar g_ar) (h_bb : C_bb p_bb g_bb) (h_ba : C_ba p_ba g_ba) {pre : In_bj -> Bool} {fn : In_bj -> Out_bj} (hev : ∀ x, pre x = true -> ∃ k, E_bj g_ar p_ar g_bb p_bb g_ba p_ba k x = some (fn x)) : C_bj pre fn := sound tysOk mixed (fn := Tryz.f184) rfl rfl rfl (.cons h_ar (.cons h_bb (.cons h_ba .nil))) _ hev
end
/-! bk: sl9Batch -/
abbrev M_bk : List Vm.Mode := [.imm S_BatBatch, .imm S_ReqReq, .imm I]
abbrev R_bk : List (RK × Sh) := [(.own, S_BatBatch), (.imm, .bool)]
abbrev In_bk : Type := (insSh M_bk).den
abbrev Out_bk : Type := (outSh R_bk M_bk).den
abbrev C_bk (pre : In_bk -> Bool) (fn : In_bk -> Out_bk) : Prop := Sound Tryz.prog 135 ⟨M_bk, R_bk, pre, fn⟩
section
variable (g_bg : In_bg -> Out_bg) (p_bg : In_bg -> Bool) (g_bh : In_bh -> Out_bh) (p_bh : In_bh -> Bool) (g_bi : In_bi -> Out_bi) (p_bi : In_bi -> Bool) (g_bj : In_bj -> Out_bj) (p_bj : In_bj -> Bool)
abbrev X_bk : Ctx := ctx tys 83 (conOf [(40, ⟨M_bg, R_bg, p_bg, g_bg⟩), (37, ⟨M_bh, R_bh, p_bh, g_bh⟩), (32, ⟨M_bi, R_bi, p_bi, g_bi⟩), (184, ⟨M_bj, R_bj, p_bj, g_bj⟩)]) (keepOf []) (fun _ => [])
noncomputable abbrev E_bk (k : Nat) (x : In_bk) : Option Out_bk := evFn (X_bk g_bg p_bg g_bh p_bh g_bi p_bi g_bj p_bj) Tryz.f135 R_bk M_bk k x
variable {g_bg p_bg g_bh p_bh g_bi p_bi g_bj p_bj}
theorem ev_bk (k : Nat) (x0 : Dm (.imm S_BatBatch)) (x1 : Dm (.imm S_ReqReq)) (x2 : Dm (.imm I)) : E_bk g_bg p_bg g_bh p_bh g_bi p_bi g_bj p_bj k (x0, x1, x2, ()) =
  (bif (decide (x1.2.1 = (4 : Int))) then (cl (p_bg (x0, (x1.2.2.2.1, ((1 : Int), (x1.2.2.2.2.2.1, ((0 : Int), ())))))) (g_bg (x0, (x1.2.2.2.1, ((1 : Int), (x1.2.2.2.2.2.1, ((0 : Int), ())))))) fun y0 => (some (y0.1, (y0.2.1, ())))) else (bif (decide (x1.2.1 = (5 : Int))) then (cl (p_bg (x0, (x1.2.2.2.1, ((2 : Int), (((0 : Int), (0 : Int)), (x1.2.2.2.2.1, ())))))) (g_bg (x0, (x1.2.2.2.1, ((2 : Int), (((0 : Int), (0 : Int)), (x1.2.2.2.2.1, ())))))) fun y1 => (some (y1.1, (y1.2.1, ())))) else (bif (decide (x1.2.1 = (6 : Int))) then (cl (p_bg (x0, (x1.2.2.2.1, ((3 : Int), (x1.2.2.2.2.2.1, ((0 : Int), ())))))) (g_bg (x0, (x1.2.2.2.1, ((3 : Int), (x1.2.2.2.2.2.1, ((0 : Int), ())))))) fun y2 => (some (y2.1, (y2.2.1, ())))) else (bif (decide (x1.2.1 = (7 : Int))) then (cl (p_bh (x0, ((List.length x0.2.2.2.2.2 : Int), (true, ())))) (g_bh (x0, ((List.length x0.2.2.2.2.2 : Int), (true, ())))) fun y3 => (some (y3.1, (y3.2.1, ())))) else (bif (decide (x1.2.1 = (8 : Int))) then (cl (p_bh (x0, (x1.2.2.2.2.1, (false, ())))) (g_bh (x0, (x1.2.2.2.2.1, (false, ())))) fun y4 => (some (y4.1, (y4.2.1, ())))) else (bif (decide (x1.2.1 = (9 : Int))) then (cl (p_bi (x0, (x1.1, (x2, ())))) (g_bi (x0, (x1.1, (x2, ())))) fun y5 => (some (y5.1, (y5.2.1, ())))) else (bif (decide (x1.2.1 = (10 : Int))) then (cl (p_bj (x0, ((2 : Int), ()))) (g_bj (x0, ((2 : Int), ()))) fun y6 => (some (y6.1, (y6.2.1, ())))) else (bif (decide (x1.2.1 = (11 : Int))) then (cl (p_bj (x0, ((3 : Int), ()))) (g_bj (x0, ((3 : Int), ()))) fun y7 => (some (y7.1, (y7.2.1, ())))) else (cl (p_bj (x0, ((4 : Int), ()))) (g_bj (x0, ((4 : Int), ()))) fun y8 => (some (y8.1, (y8.2.1, ())))))))))))) := by kernel_rfl
theorem S_bk (h_bg : C_bg p_bg g_bg) (h_bh : C_bh p_bh g_bh) (h_bi : C_bi p_bi g_bi) (h_bj : C_bj p_bj g_bj) {pre : In_bk -> Bool} {fn : In_bk -> Out_bk} (hev : ∀ x, pre x = true -> ∃ k, E_bk g_bg p_bg g_bh p_bh g_bi p_bi g_bj p_bj k x = some (fn x)) : C_bk pre fn := sound tysOk mixed (fn := Tryz.f135) rfl rfl rfl (.cons h_bg (.cons h_bh (.cons h_bi (.cons h_bj .nil)))) _ hev
end
/-! bl: sl9Do -/
abbrev M_bl : List Vm.Mode := [.own S_HouHouse, .imm S_ReqReq]
abbrev R_bl : List (RK × Sh) := [(.own, S_HouHouse), (.imm, I)]
abbrev In_bl : Type := (insSh M_bl).den
abbrev Out_bl : Type := (outSh R_bl M_bl).den
abbrev C_bl (pre : In_bl -> Bool) (fn : In_bl -> Out_bl) : Prop := Sound Tryz.prog 62 ⟨M_bl, R_bl, pre, fn⟩
section
variable (g_am : In_am -> Out_am) (g_az : In_az -> Out_az) (p_az : In_az -> Bool) (g_b2 : In_b2 -> Out_b2) (p_b2 : In_b2 -> Bool) (g_bk : In_bk -> Out_bk) (p_bk : In_bk -> Bool)
abbrev X_bl : Ctx := ctx tys 80 (conOf [(132, ⟨M_am, R_am, fun _ => true, g_am⟩), (133, ⟨M_az, R_az, p_az, g_az⟩), (134, ⟨M_b2, R_b2, p_b2, g_b2⟩), (135, ⟨M_bk, R_bk, p_bk, g_bk⟩)]) (keepOf []) (fun _ => [])
noncomputable abbrev E_bl (k : Nat) (x : In_bl) : Option Out_bl := evFn (X_bl g_am g_az p_az g_b2 p_b2 g_bk p_bk) Tryz.f62 R_bl M_bl k x
variable {g_am g_az p_az g_b2 p_b2 g_bk p_bk}
theorem ev_bl (k : Nat) (x0 : Dm (.own S_HouHouse)) (x1 : Dm (.imm S_ReqReq)) : E_bl g_am g_az p_az g_b2 p_b2 g_bk p_bk k (x0, x1, ()) =
  (lt (w64 (x1.1 - (1 : Int))) fun s0 => (lt (rdL (e := I) x0.1 s0) fun s1 => (bif (decide ((List.length x0.1 : Int) < x1.1)) then (some (x0, ((2 : Int), ()))) else (bif (bif (decide ((0 : Int) <= s0)) then (decide (s0 < (List.length x0.1 : Int))) else false) then (bif (bif (g_am (s1, (x1.2.1, ()))).1 then false else true) then (some (x0, ((2 : Int), ()))) else (bif (decide (x1.2.1 = (1 : Int))) then (cl (p_az (x0, (x1, ()))) (g_az (x0, (x1, ()))) fun y0 => (some (y0.1, (y0.2.1, ())))) else (bif (decide (x1.2.1 = (2 : Int))) then (cl (p_az (x0, (x1, ()))) (g_az (x0, (x1, ()))) fun y1 => (some (y1.1, (y1.2.1, ())))) else (bif (decide (x1.2.1 = (3 : Int))) then (cl (p_b2 (x0, (x1, ()))) (g_b2 (x0, (x1, ()))) fun y2 => (some (y2.1, (y2.2.1, ())))) else (bif (decide ((List.length x0.2.2 : Int) <= x1.2.2.1)) then (some (x0, ((3 : Int), ()))) else (bif (bif (decide ((0 : Int) <= x1.2.2.1)) then (decide (x1.2.2.1 < (List.length x0.2.2 : Int))) else false) then (bif (bif (decide ((0 : Int) <= s0)) then (decide (s0 < (List.length x0.1 : Int))) else false) then (cl (p_bk ((rdL (e := S_BatBatch) x0.2.2 x1.2.2.1), (x1, (s1, ())))) (g_bk ((rdL (e := S_BatBatch) x0.2.2 x1.2.2.1), (x1, (s1, ())))) fun y3 => (bif (bif y3.2.1 then false else true) then (some (x0, ((5 : Int), ()))) else (bif (bif (decide ((0 : Int) <= x1.2.2.1)) then (decide (x1.2.2.1 < (List.length x0.2.2 : Int))) else false) then (some ((x0.1, (x0.2.1, (List.set x0.2.2 (Int.toNat x1.2.2.1) y3.1))), ((1 : Int), ()))) else none))) else none) else none)))))) else none)))) := by kernel_rfl
theorem S_bl (h_am : C_am (fun _ => true) g_am) (h_az : C_az p_az g_az) (h_b2 : C_b2 p_b2 g_b2) (h_bk : C_bk p_bk g_bk) {pre : In_bl -> Bool} {fn : In_bl -> Out_bl} (hev : ∀ x, pre x = true -> ∃ k, E_bl g_am g_az p_az g_b2 p_b2 g_bk p_bk k x = some (fn x)) : C_bl pre fn := sound tysOk mixed (fn := Tryz.f62) rfl rfl rfl (.cons h_am (.cons h_az (.cons h_b2 (.cons h_bk .nil)))) _ hev
end
/-! bm: sl8CopyReq -/
abbrev M_bm : List Vm.Mode := [.imm S_ReqReq]
abbrev R_bm : List (RK × Sh) := [(.own, S_ReqReq)]
abbrev In_bm : Type := (insSh M_bm).den
abbrev Out_bm : Type := (outSh R_bm M_bm).den
abbrev C_bm (pre : In_bm -> Bool) (fn : In_bm -> Out_bm) : Prop := Sound Tryz.prog 175 ⟨M_bm, R_bm, pre, fn⟩
abbrev X_bm : Ctx := ctx tys 9 (conOf []) (keepOf []) (fun _ => [])
noncomputable abbrev E_bm (k : Nat) (x : In_bm) : Option Out_bm := evFn X_bm Tryz.f175 R_bm M_bm k x
theorem ev_bm (k : Nat) (x0 : Dm (.imm S_ReqReq)) : E_bm k (x0, ()) =
  (bif (fitL [] x0.2.2.2.2.2.2) then (some ((x0.1, (x0.2.1, (x0.2.2.1, (x0.2.2.2.1, (x0.2.2.2.2.1, (x0.2.2.2.2.2.1, (List.append [] x0.2.2.2.2.2.2))))))), ())) else none) := by kernel_rfl
theorem S_bm  {pre : In_bm -> Bool} {fn : In_bm -> Out_bm} (hev : ∀ x, pre x = true -> ∃ k, E_bm k x = some (fn x)) : C_bm pre fn := sound tysOk mixed (fn := Tryz.f175) rfl rfl rfl ConsOk.nil _ hev
/-! bn: sl8Same -/
abbrev M_bn : List Vm.Mode := [.imm S_ReqReq, .imm S_ReqReq]
abbrev R_bn : List (RK × Sh) := [(.imm, .bool)]
abbrev In_bn : Type := (insSh M_bn).den
abbrev Out_bn : Type := (outSh R_bn M_bn).den
abbrev C_bn (pre : In_bn -> Bool) (fn : In_bn -> Out_bn) : Prop := Sound Tryz.prog 67 ⟨M_bn, R_bn, pre, fn⟩
abbrev X_bn : Ctx := ctx tys 71 (conOf []) (keepOf [(pt0, (⟨[(2, .asis), (3, .asis), (5, .asis)], [(2, .asis), (3, .asis)], []⟩ : Keep))]) (fun _ => [])
noncomputable abbrev E_bn (k : Nat) (x : In_bn) : Option Out_bn := evFn X_bn Tryz.f67 R_bn M_bn k x
def h0_bn (x0 : Dm (.imm S_ReqReq)) (x1 : Dm (.imm S_ReqReq)) (h0 : Dn I) : St := mkS [(2, (AV.ptr 2 none [])), (3, (AV.ptr 3 none [])), (5, (AV.val I h0))] [(2, (Ob.box S_ReqReq (AV.val S_ReqReq x0))), (3, (Ob.box S_ReqReq (AV.val S_ReqReq x1)))]
noncomputable def r_bn (x : In_bn) (k : Nat) (p : List Bool) (s : St) : Option Out_bn := rounds X_bn Tryz.f67 R_bn M_bn x k p s
theorem ev_bn (k : Nat) (x0 : Dm (.imm S_ReqReq)) (x1 : Dm (.imm S_ReqReq)) : E_bn k (x0, x1, ()) =
  (bif (bif (decide ((List.length x0.2.2.2.2.2.2 : Int) = (List.length x1.2.2.2.2.2.2 : Int))) then false else true) then (some (false, ())) else (r_bn  (x0, x1, ()) k pt0 (h0_bn x0 x1 (0 : Int)))) := by kernel_rfl
theorem rd0_bn (k : Nat) (x0 : Dm (.imm S_ReqReq)) (x1 : Dm (.imm S_ReqReq)) (h0 : Dn I) : r_bn  (x0, x1, ()) (k + 1) pt0 (h0_bn x0 x1 h0) =
  (bif (decide (h0 < (List.length x0.2.2.2.2.2.2 : Int))) then (bif (bif (decide ((0 : Int) <= h0)) then (decide (h0 < (List.length x0.2.2.2.2.2.2 : Int))) else false) then (bif (bif (decide ((0 : Int) <= h0)) then (decide (h0 < (List.length x1.2.2.2.2.2.2 : Int))) else false) then (bif (bif (Sh.beq S_SpcTest (rdL (e := S_SpcTest) x0.2.2.2.2.2.2 h0) (rdL (e := S_SpcTest) x1.2.2.2.2.2.2 h0)) then false else true) then (some (false, ())) else (r_bn  (x0, x1, ()) k pt0 (h0_bn x0 x1 (w64 (h0 + (1 : Int)))))) else none) else none) else (bif (decide (x0.1 = x1.1)) then (bif (decide (x0.2.1 = x1.2.1)) then (bif (decide (x0.2.2.1 = x1.2.2.1)) then (bif (decide (x0.2.2.2.1 = x1.2.2.2.1)) then (bif (decide (x0.2.2.2.2.1 = x1.2.2.2.2.1)) then (some ((Sh.beq S_DecDec x0.2.2.2.2.2.1 x1.2.2.2.2.2.1), ())) else (some (false, ()))) else (some (false, ()))) else (some (false, ()))) else (some (false, ()))) else (some (false, ())))) := by kernel_rfl
theorem S_bn  {pre : In_bn -> Bool} {fn : In_bn -> Out_bn} (hev : ∀ x, pre x = true -> ∃ k, E_bn k x = some (fn x)) : C_bn pre fn := sound tysOk mixed (fn := Tryz.f67) rfl rfl rfl ConsOk.nil _ hev
/-! bo: sReqOk -/
abbrev M_bo : List Vm.Mode := [.imm S_ReqReq]
abbrev R_bo : List (RK × Sh) := [(.imm, .bool)]
abbrev In_bo : Type := (insSh M_bo).den
abbrev Out_bo : Type := (outSh R_bo M_bo).den
abbrev C_bo (pre : In_bo -> Bool) (fn : In_bo -> Out_bo) : Prop := Sound Tryz.prog 23 ⟨M_bo, R_bo, pre, fn⟩
section
variable (g_a3 : In_a3 -> Out_a3) (g_aa : In_aa -> Out_aa) (g_bn : In_bn -> Out_bn) (p_bn : In_bn -> Bool) (g_ab : In_ab -> Out_ab) (g_av : In_av -> Out_av)
abbrev X_bo : Ctx := ctx tys 66 (conOf [(66, ⟨M_a3, R_a3, fun _ => true, g_a3⟩), (68, ⟨M_aa, R_aa, fun _ => true, g_aa⟩), (67, ⟨M_bn, R_bn, p_bn, g_bn⟩), (69, ⟨M_ab, R_ab, fun _ => true, g_ab⟩), (70, ⟨M_av, R_av, fun _ => true, g_av⟩)]) (keepOf []) (fun _ => [])
noncomputable abbrev E_bo (k : Nat) (x : In_bo) : Option Out_bo := evFn (X_bo g_a3 g_aa g_bn p_bn g_ab g_av) Tryz.f23 R_bo M_bo k x
variable {g_a3 g_aa g_bn p_bn g_ab g_av}
theorem ev_bo (k : Nat) (x0 : Dm (.imm S_ReqReq)) : E_bo g_a3 g_aa g_bn p_bn g_ab g_av k (x0, ()) =
  (bif (bif (g_a3 (x0.1, ((1 : Int), ((5 : Int), ())))).1 then false else true) then (some (false, ())) else (bif (bif (g_a3 (x0.2.1, ((1 : Int), ((12 : Int), ())))).1 then false else true) then (some (false, ())) else (cl (p_bn (x0, ((g_aa (x0, ())).1, ()))) (g_bn (x0, ((g_aa (x0, ())).1, ()))) fun y0 => (bif (bif y0.1 then false else true) then (some (false, ())) else (bif (bif (g_a3 (x0.2.2.1, ((0 : Int), ((9 : Int), ())))).1 then false else true) then (some (false, ())) else (bif (bif (g_a3 (x0.2.2.2.2.1, ((0 : Int), ((10000 : Int), ())))).1 then false else true) then (some (false, ())) else (bif (bif (g_ab (x0.2.2.2.2.2.1, ())).1 then false else true) then (some (false, ())) else (bif (decide (x0.2.1 = (4 : Int))) then (bif ((decide (x0.2.1 = (1 : Int))) == (g_av (x0.2.2.2.2.2.2, ())).1) then (some ((true == (g_a3 (x0.2.2.2.1, ((1 : Int), ((4 : Int), ())))).1), ())) else (some (false, ()))) else (bif (decide (x0.2.1 = (5 : Int))) then (bif ((decide (x0.2.1 = (1 : Int))) == (g_av (x0.2.2.2.2.2.2, ())).1) then (some ((true == (g_a3 (x0.2.2.2.1, ((1 : Int), ((4 : Int), ())))).1), ())) else (some (false, ()))) else (bif ((decide (x0.2.1 = (1 : Int))) == (g_av (x0.2.2.2.2.2.2, ())).1) then (some (((decide (x0.2.1 = (6 : Int))) == (g_a3 (x0.2.2.2.1, ((1 : Int), ((4 : Int), ())))).1), ())) else (some (false, ())))))))))))) := by kernel_rfl
theorem S_bo (h_a3 : C_a3 (fun _ => true) g_a3) (h_aa : C_aa (fun _ => true) g_aa) (h_bn : C_bn p_bn g_bn) (h_ab : C_ab (fun _ => true) g_ab) (h_av : C_av (fun _ => true) g_av) {pre : In_bo -> Bool} {fn : In_bo -> Out_bo} (hev : ∀ x, pre x = true -> ∃ k, E_bo g_a3 g_aa g_bn p_bn g_ab g_av k x = some (fn x)) : C_bo pre fn := sound tysOk mixed (fn := Tryz.f23) rfl rfl rfl (.cons h_a3 (.cons h_aa (.cons h_bn (.cons h_ab (.cons h_av .nil))))) _ hev
end
/-! bp: sl1Digits -/
abbrev M_bp : List Vm.Mode := [.imm I, .imm I]
abbrev R_bp : List (RK × Sh) := [(.imm, .str)]
abbrev In_bp : Type := (insSh M_bp).den
abbrev Out_bp : Type := (outSh R_bp M_bp).den
abbrev C_bp (pre : In_bp -> Bool) (fn : In_bp -> Out_bp) : Prop := Sound Tryz.prog 214 ⟨M_bp, R_bp, pre, fn⟩
abbrev X_bp : Ctx := ctx tys 25 (conOf []) (keepOf [(pt4, (⟨[(0, .asis), (1, .asis), (5, .asis)], [], []⟩ : Keep))]) (fun _ => [])
noncomputable abbrev E_bp (k : Nat) (x : In_bp) : Option Out_bp := evFn X_bp Tryz.f214 R_bp M_bp k x
def h0_bp (x0 : Dm (.imm I)) (x1 : Dm (.imm I)) (h0 : Dn I) (h1 : Dn Sh.str) : St := mkS [(0, (AV.val I h0)), (1, (AV.val I x1)), (5, (AV.val Sh.str h1))] []
noncomputable def r_bp (x : In_bp) (k : Nat) (p : List Bool) (s : St) : Option Out_bp := rounds X_bp Tryz.f214 R_bp M_bp x k p s
theorem ev_bp (k : Nat) (x0 : Dm (.imm I)) (x1 : Dm (.imm I)) : E_bp k (x0, x1, ()) =
  (r_bp  (x0, x1, ()) k pt4 (h0_bp x0 x1 x0 (ByteArray.mk (Array.mk [])))) := by kernel_rfl
theorem rd0_bp (k : Nat) (x0 : Dm (.imm I)) (x1 : Dm (.imm I)) (h0 : Dn I) (h1 : Dn Sh.str) : r_bp  (x0, x1, ()) (k + 1) pt4 (h0_bp x0 x1 h0 h1) =
  (bif (decide ((0 : Int) < h0)) then (bif (bif (decide ((10 : Int) = (0 : Int))) then false else true) then (bif (fitS (bytesStr [(IntKind.wrap IntKind.u8 (w64 ((48 : Int) + (Int.tmod h0 (10 : Int)))))]) h1) then (bif (bif (decide ((10 : Int) = (0 : Int))) then false else true) then (r_bp  (x0, x1, ()) k pt4 (h0_bp x0 x1 (w64 (Int.tdiv h0 (10 : Int))) (ByteArray.append (bytesStr [(IntKind.wrap IntKind.u8 (w64 ((48 : Int) + (Int.tmod h0 (10 : Int)))))]) h1))) else none) else none) else none) else (bif (decide (((ByteArray.size h1 : Nat) : Int) < x1)) then (bif (bif (decide ((10 : Int) = (0 : Int))) then false else true) then (bif (fitS (bytesStr [(IntKind.wrap IntKind.u8 (w64 ((48 : Int) + (Int.tmod h0 (10 : Int)))))]) h1) then (bif (bif (decide ((10 : Int) = (0 : Int))) then false else true) then (r_bp  (x0, x1, ()) k pt4 (h0_bp x0 x1 (w64 (Int.tdiv h0 (10 : Int))) (ByteArray.append (bytesStr [(IntKind.wrap IntKind.u8 (w64 ((48 : Int) + (Int.tmod h0 (10 : Int)))))]) h1))) else none) else none) else none) else (some (h1, ())))) := by kernel_rfl
theorem S_bp  {pre : In_bp -> Bool} {fn : In_bp -> Out_bp} (hev : ∀ x, pre x = true -> ∃ k, E_bp k x = some (fn x)) : C_bp pre fn := sound tysOk mixed (fn := Tryz.f214) rfl rfl rfl ConsOk.nil _ hev
/-! bq: sl8Names -/
abbrev M_bq : List Vm.Mode := []
abbrev R_bq : List (RK × Sh) := [(.imm, L_str)]
abbrev In_bq : Type := (insSh M_bq).den
abbrev Out_bq : Type := (outSh R_bq M_bq).den
abbrev C_bq (pre : In_bq -> Bool) (fn : In_bq -> Out_bq) : Prop := Sound Tryz.prog 215 ⟨M_bq, R_bq, pre, fn⟩
abbrev X_bq : Ctx := ctx tys 2 (conOf []) (keepOf []) (fun _ => [])
noncomputable abbrev E_bq (k : Nat) (x : In_bq) : Option Out_bq := evFn X_bq Tryz.f215 R_bq M_bq k x
theorem ev_bq (k : Nat)  : E_bq k (()) =
  (some ([(ByteArray.mk (Array.mk [])), (ByteArray.mk (Array.mk [(100 : UInt8), (114 : UInt8), (97 : UInt8), (102 : UInt8), (116 : UInt8)])), (ByteArray.mk (Array.mk [(114 : UInt8), (97 : UInt8), (105 : UInt8), (115 : UInt8), (101 : UInt8)])), (ByteArray.mk (Array.mk [(116 : UInt8), (97 : UInt8), (107 : UInt8), (101 : UInt8)])), (ByteArray.mk (Array.mk [(112 : UInt8), (117 : UInt8), (116 : UInt8)])), (ByteArray.mk (Array.mk [(99 : UInt8), (97 : UInt8), (117 : UInt8), (115 : UInt8), (101 : UInt8)])), (ByteArray.mk (Array.mk [(109 : UInt8), (111 : UInt8), (114 : UInt8), (101 : UInt8)])), (ByteArray.mk (Array.mk [(111 : UInt8), (112 : UInt8), (101 : UInt8), (110 : UInt8)])), (ByteArray.mk (Array.mk [(99 : UInt8), (108 : UInt8), (111 : UInt8), (115 : UInt8), (101 : UInt8)])), (ByteArray.mk (Array.mk [(115 : UInt8), (105 : UInt8), (103 : UInt8), (110 : UInt8)])), (ByteArray.mk (Array.mk [(102 : UInt8), (114 : UInt8), (101 : UInt8), (101 : UInt8)])), (ByteArray.mk (Array.mk [(114 : UInt8), (101 : UInt8), (102 : UInt8), (117 : UInt8), (115 : UInt8), (101 : UInt8)])), (ByteArray.mk (Array.mk [(114 : UInt8), (101 : UInt8), (99 : UInt8), (97 : UInt8), (108 : UInt8), (108 : UInt8)]))], ())) := by kernel_rfl
theorem S_bq  {pre : In_bq -> Bool} {fn : In_bq -> Out_bq} (hev : ∀ x, pre x = true -> ∃ k, E_bq k x = some (fn x)) : C_bq pre fn := sound tysOk mixed (fn := Tryz.f215) rfl rfl rfl ConsOk.nil _ hev
/-! br: sDecText -/
abbrev M_br : List Vm.Mode := [.imm S_DecDec]
abbrev R_br : List (RK × Sh) := [(.imm, .str)]
abbrev In_br : Type := (insSh M_br).den
abbrev Out_br : Type := (outSh R_br M_br).den
abbrev C_br (pre : In_br -> Bool) (fn : In_br -> Out_br) : Prop := Sound Tryz.prog 217 ⟨M_br, R_br, pre, fn⟩
section
variable (g_ab : In_ab -> Out_ab) (g_a5 : In_a5 -> Out_a5) (p_a5 : In_a5 -> Bool) (g_bp : In_bp -> Out_bp) (p_bp : In_bp -> Bool)
abbrev X_br : Ctx := ctx tys 38 (conOf [(69, ⟨M_ab, R_ab, fun _ => true, g_ab⟩), (138, ⟨M_a5, R_a5, p_a5, g_a5⟩), (214, ⟨M_bp, R_bp, p_bp, g_bp⟩)]) (keepOf []) (fun _ => [])
noncomputable abbrev E_br (k : Nat) (x : In_br) : Option Out_br := evFn (X_br g_ab g_a5 p_a5 g_bp p_bp) Tryz.f217 R_br M_br k x
variable {g_ab g_a5 p_a5 g_bp p_bp}
theorem ev_br (k : Nat) (x0 : Dm (.imm S_DecDec)) : E_br g_ab g_a5 p_a5 g_bp p_bp k (x0, ()) =
  (lt (ByteArray.mk (Array.mk [(46 : UInt8)])) fun s1 => (lt (ByteArray.mk (Array.mk [(45 : UInt8)])) fun s0 => (bif (bif (g_ab (x0, ())).1 then false else true) then (some ((ByteArray.mk (Array.mk [])), ())) else (bif (decide (x0.1 < (0 : Int))) then (cl (p_a5 (x0.2, ())) (g_a5 (x0.2, ())) fun y0 => (bif (bif (decide (y0.1 = (0 : Int))) then false else true) then (cl (p_bp ((w64 (Int.tdiv (w64 ((0 : Int) - x0.1)) y0.1)), ((1 : Int), ()))) (g_bp ((w64 (Int.tdiv (w64 ((0 : Int) - x0.1)) y0.1)), ((1 : Int), ()))) fun y1 => (bif (fitS s0 y1.1) then (bif (decide ((0 : Int) < x0.2)) then (bif (fitS (ByteArray.append s0 y1.1) s1) then (bif (p_a5 (x0.2, ())) then (bif (bif (decide (y0.1 = (0 : Int))) then false else true) then (cl (p_bp ((Int.tmod (w64 ((0 : Int) - x0.1)) y0.1), (x0.2, ()))) (g_bp ((Int.tmod (w64 ((0 : Int) - x0.1)) y0.1), (x0.2, ()))) fun y2 => (bif (fitS (ByteArray.append (ByteArray.append s0 y1.1) s1) y2.1) then (some ((ByteArray.append (ByteArray.append (ByteArray.append s0 y1.1) s1) y2.1), ())) else none)) else none) else none) else none) else (some ((ByteArray.append s0 y1.1), ()))) else none)) else none)) else (cl (p_a5 (x0.2, ())) (g_a5 (x0.2, ())) fun y3 => (bif (bif (decide (y3.1 = (0 : Int))) then false else true) then (cl (p_bp ((w64 (Int.tdiv x0.1 y3.1)), ((1 : Int), ()))) (g_bp ((w64 (Int.tdiv x0.1 y3.1)), ((1 : Int), ()))) fun y4 => (bif (fitS (ByteArray.mk (Array.mk [])) y4.1) then (bif (decide ((0 : Int) < x0.2)) then (bif (fitS (ByteArray.append (ByteArray.mk (Array.mk [])) y4.1) s1) then (bif (p_a5 (x0.2, ())) then (bif (bif (decide (y3.1 = (0 : Int))) then false else true) then (cl (p_bp ((Int.tmod x0.1 y3.1), (x0.2, ()))) (g_bp ((Int.tmod x0.1 y3.1), (x0.2, ()))) fun y5 => (bif (fitS (ByteArray.append (ByteArray.append (ByteArray.mk (Array.mk [])) y4.1) s1) y5.1) then (some ((ByteArray.append (ByteArray.append (ByteArray.append (ByteArray.mk (Array.mk [])) y4.1) s1) y5.1), ())) else none)) else none) else none) else none) else (some ((ByteArray.append (ByteArray.mk (Array.mk [])) y4.1), ()))) else none)) else none)))))) := by kernel_rfl
theorem S_br (h_ab : C_ab (fun _ => true) g_ab) (h_a5 : C_a5 p_a5 g_a5) (h_bp : C_bp p_bp g_bp) {pre : In_br -> Bool} {fn : In_br -> Out_br} (hev : ∀ x, pre x = true -> ∃ k, E_br g_ab g_a5 p_a5 g_bp p_bp k x = some (fn x)) : C_br pre fn := sound tysOk mixed (fn := Tryz.f217) rfl rfl rfl (.cons h_ab (.cons h_a5 (.cons h_bp .nil))) _ hev
end
/-! bs: sl8Ask -/
abbrev M_bs : List Vm.Mode := [.imm S_SpcTest]
abbrev R_bs : List (RK × Sh) := [(.imm, .str)]
abbrev In_bs : Type := (insSh M_bs).den
abbrev Out_bs : Type := (outSh R_bs M_bs).den
abbrev C_bs (pre : In_bs -> Bool) (fn : In_bs -> Out_bs) : Prop := Sound Tryz.prog 216 ⟨M_bs, R_bs, pre, fn⟩
section
variable (g_bp : In_bp -> Out_bp) (p_bp : In_bp -> Bool) (g_br : In_br -> Out_br) (p_br : In_br -> Bool)
abbrev X_bs : Ctx := ctx tys 21 (conOf [(214, ⟨M_bp, R_bp, p_bp, g_bp⟩), (217, ⟨M_br, R_br, p_br, g_br⟩)]) (keepOf []) (fun _ => [])
noncomputable abbrev E_bs (k : Nat) (x : In_bs) : Option Out_bs := evFn (X_bs g_bp p_bp g_br p_br) Tryz.f216 R_bs M_bs k x
variable {g_bp p_bp g_br p_br}
theorem ev_bs (k : Nat) (x0 : Dm (.imm S_SpcTest)) : E_bs g_bp p_bp g_br p_br k (x0, ()) =
  (cl (p_bp (x0.1, ((1 : Int), ()))) (g_bp (x0.1, ((1 : Int), ()))) fun y0 => (bif (fitS y0.1 (ByteArray.mk (Array.mk [(58 : UInt8)]))) then (cl (p_br (x0.2.1, ())) (g_br (x0.2.1, ())) fun y1 => (bif (fitS (ByteArray.append y0.1 (ByteArray.mk (Array.mk [(58 : UInt8)]))) y1.1) then (bif (fitS (ByteArray.append (ByteArray.append y0.1 (ByteArray.mk (Array.mk [(58 : UInt8)]))) y1.1) (ByteArray.mk (Array.mk [(46 : UInt8), (46 : UInt8)]))) then (cl (p_br (x0.2.2.1, ())) (g_br (x0.2.2.1, ())) fun y2 => (bif (fitS (ByteArray.append (ByteArray.append (ByteArray.append y0.1 (ByteArray.mk (Array.mk [(58 : UInt8)]))) y1.1) (ByteArray.mk (Array.mk [(46 : UInt8), (46 : UInt8)]))) y2.1) then (bif (fitS (ByteArray.append (ByteArray.append (ByteArray.append (ByteArray.append y0.1 (ByteArray.mk (Array.mk [(58 : UInt8)]))) y1.1) (ByteArray.mk (Array.mk [(46 : UInt8), (46 : UInt8)]))) y2.1) (ByteArray.mk (Array.mk [(47 : UInt8)]))) then (cl (p_bp (x0.2.2.2, ((1 : Int), ()))) (g_bp (x0.2.2.2, ((1 : Int), ()))) fun y3 => (bif (fitS (ByteArray.append (ByteArray.append (ByteArray.append (ByteArray.append (ByteArray.append y0.1 (ByteArray.mk (Array.mk [(58 : UInt8)]))) y1.1) (ByteArray.mk (Array.mk [(46 : UInt8), (46 : UInt8)]))) y2.1) (ByteArray.mk (Array.mk [(47 : UInt8)]))) y3.1) then (some ((ByteArray.append (ByteArray.append (ByteArray.append (ByteArray.append (ByteArray.append (ByteArray.append y0.1 (ByteArray.mk (Array.mk [(58 : UInt8)]))) y1.1) (ByteArray.mk (Array.mk [(46 : UInt8), (46 : UInt8)]))) y2.1) (ByteArray.mk (Array.mk [(47 : UInt8)]))) y3.1), ())) else none)) else none) else none)) else none) else none)) else none)) := by kernel_rfl
theorem S_bs (h_bp : C_bp p_bp g_bp) (h_br : C_br p_br g_br) {pre : In_bs -> Bool} {fn : In_bs -> Out_bs} (hev : ∀ x, pre x = true -> ∃ k, E_bs g_bp p_bp g_br p_br k x = some (fn x)) : C_bs pre fn := sound tysOk mixed (fn := Tryz.f216) rfl rfl rfl (.cons h_bp (.cons h_br .nil)) _ hev
end
/-! bt: sReqText -/
abbrev M_bt : List Vm.Mode := [.imm S_ReqReq]
abbrev R_bt : List (RK × Sh) := [(.imm, .str)]
abbrev In_bt : Type := (insSh M_bt).den
abbrev Out_bt : Type := (outSh R_bt M_bt).den
abbrev C_bt (pre : In_bt -> Bool) (fn : In_bt -> Out_bt) : Prop := Sound Tryz.prog 202 ⟨M_bt, R_bt, pre, fn⟩
section
variable (g_bo : In_bo -> Out_bo) (p_bo : In_bo -> Bool) (g_bp : In_bp -> Out_bp) (p_bp : In_bp -> Bool) (g_bq : In_bq -> Out_bq) (g_bs : In_bs -> Out_bs) (p_bs : In_bs -> Bool) (g_br : In_br -> Out_br) (p_br : In_br -> Bool)
abbrev X_bt : Ctx := ctx tys 93 (conOf [(23, ⟨M_bo, R_bo, p_bo, g_bo⟩), (214, ⟨M_bp, R_bp, p_bp, g_bp⟩), (215, ⟨M_bq, R_bq, fun _ => true, g_bq⟩), (216, ⟨M_bs, R_bs, p_bs, g_bs⟩), (217, ⟨M_br, R_br, p_br, g_br⟩)]) (keepOf [(pt6, (⟨[(1, .asis), (3, .asis), (4, .asis)], [(1, .asis)], []⟩ : Keep))]) (fun _ => [])
noncomputable abbrev E_bt (k : Nat) (x : In_bt) : Option Out_bt := evFn (X_bt g_bo p_bo g_bp p_bp g_bq g_bs p_bs g_br p_br) Tryz.f202 R_bt M_bt k x
def h0_bt (x0 : Dm (.imm S_ReqReq)) (h0 : Dn Sh.str) (h1 : Dn I) : St := mkS [(1, (AV.ptr 1 none [])), (3, (AV.val Sh.str h0)), (4, (AV.val I h1))] [(1, (Ob.box S_ReqReq (AV.val S_ReqReq x0)))]
noncomputable def r_bt (x : In_bt) (k : Nat) (p : List Bool) (s : St) : Option Out_bt := rounds (X_bt g_bo p_bo g_bp p_bp g_bq g_bs p_bs g_br p_br) Tryz.f202 R_bt M_bt x k p s
variable {g_bo p_bo g_bp p_bp g_bq g_bs p_bs g_br p_br}
theorem ev_bt (k : Nat) (x0 : Dm (.imm S_ReqReq)) : E_bt g_bo p_bo g_bp p_bp g_bq g_bs p_bs g_br p_br k (x0, ()) =
  (lt (Array.mk [(117 : UInt8), (115 : UInt8), (101 : UInt8), (114 : UInt8), (32 : UInt8)]) fun s4 => (lt (g_bp (x0.2.2.2.2.1, ((1 : Int), ()))) fun s3 => (lt (rdL (e := Sh.str) (g_bq ()).1 x0.2.1) fun s2 => (lt (g_bp (x0.2.2.2.1, ((1 : Int), ()))) fun s1 => (lt (ByteArray.mk (Array.mk [(32 : UInt8)])) fun s0 => (cl (p_bo (x0, ())) (g_bo (x0, ())) fun y0 => (bif (bif y0.1 then false else true) then (some ((ByteArray.mk (Array.mk [])), ())) else (cl (p_bp (x0.1, ((1 : Int), ()))) (g_bp (x0.1, ((1 : Int), ()))) fun y1 => (lt (ByteArray.append (ByteArray.mk s4) y1.1) fun s5 => (lt (ByteArray.append (ByteArray.append s5 s0) s2) fun s6 => (bif (fitS (ByteArray.mk s4) y1.1) then (bif (fitS s5 s0) then (bif (bif (decide ((0 : Int) <= x0.2.1)) then (decide (x0.2.1 < (List.length (g_bq ()).1 : Int))) else false) then (bif (fitS (ByteArray.append s5 s0) s2) then (bif (decide (x0.2.1 = (1 : Int))) then (r_bt g_bo p_bo g_bp p_bp g_bq g_bs p_bs g_br p_br (x0, ()) k pt6 (h0_bt x0 s6 (0 : Int))) else (bif (decide (x0.2.1 = (2 : Int))) then (bif (fitS s6 s0) then (cl (p_bp (x0.2.2.2.2.1, ((1 : Int), ()))) s3 fun y2 => (bif (fitS (ByteArray.append s6 s0) y2.1) then (some ((ByteArray.append (ByteArray.append s6 s0) y2.1), ())) else none)) else none) else (bif (decide (x0.2.1 = (3 : Int))) then (bif (fitS s6 s0) then (cl (p_bp (x0.2.2.2.2.1, ((1 : Int), ()))) s3 fun y3 => (bif (fitS (ByteArray.append s6 s0) y3.1) then (some ((ByteArray.append (ByteArray.append s6 s0) y3.1), ())) else none)) else none) else (bif (fitS s6 s0) then (cl (p_bp (x0.2.2.1, ((1 : Int), ()))) (g_bp (x0.2.2.1, ((1 : Int), ()))) fun y4 => (lt (ByteArray.append (ByteArray.append s6 s0) y4.1) fun s7 => (bif (fitS (ByteArray.append s6 s0) y4.1) then (bif (decide (x0.2.1 = (4 : Int))) then (bif (fitS s7 s0) then (cl (p_bp (x0.2.2.2.1, ((1 : Int), ()))) s1 fun y5 => (lt (ByteArray.append (ByteArray.append s7 s0) y5.1) fun s8 => (bif (fitS (ByteArray.append s7 s0) y5.1) then (bif (fitS s8 s0) then (cl (p_br (x0.2.2.2.2.2.1, ())) (g_br (x0.2.2.2.2.2.1, ())) fun y6 => (bif (fitS (ByteArray.append s8 s0) y6.1) then (some ((ByteArray.append (ByteArray.append s8 s0) y6.1), ())) else none)) else none) else none))) else none) else (bif (decide (x0.2.1 = (6 : Int))) then (bif (fitS s7 s0) then (cl (p_bp (x0.2.2.2.1, ((1 : Int), ()))) s1 fun y7 => (lt (ByteArray.append (ByteArray.append s7 s0) y7.1) fun s9 => (bif (fitS (ByteArray.append s7 s0) y7.1) then (bif (fitS s9 s0) then (cl (p_br (x0.2.2.2.2.2.1, ())) (g_br (x0.2.2.2.2.2.1, ())) fun y8 => (bif (fitS (ByteArray.append s9 s0) y8.1) then (some ((ByteArray.append (ByteArray.append s9 s0) y8.1), ())) else none)) else none) else none))) else none) else (bif (decide (x0.2.1 = (5 : Int))) then (bif (fitS s7 s0) then (cl (p_bp (x0.2.2.2.1, ((1 : Int), ()))) s1 fun y9 => (lt (ByteArray.append (ByteArray.append s7 s0) y9.1) fun s10 => (bif (fitS (ByteArray.append s7 s0) y9.1) then (bif (fitS s10 s0) then (cl (p_bp (x0.2.2.2.2.1, ((1 : Int), ()))) s3 fun y10 => (bif (fitS (ByteArray.append s10 s0) y10.1) then (some ((ByteArray.append (ByteArray.append s10 s0) y10.1), ())) else none)) else none) else none))) else none) else (bif (decide (x0.2.1 = (8 : Int))) then (bif (fitS s7 s0) then (cl (p_bp (x0.2.2.2.2.1, ((1 : Int), ()))) s3 fun y11 => (bif (fitS (ByteArray.append s7 s0) y11.1) then (some ((ByteArray.append (ByteArray.append s7 s0) y11.1), ())) else none)) else none) else (some (s7, ())))))) else none))) else none)))) else none) else none) else none) else none))))))))))) := by kernel_rfl
theorem rd0_bt (k : Nat) (x0 : Dm (.imm S_ReqReq)) (h0 : Dn Sh.str) (h1 : Dn I) : r_bt g_bo p_bo g_bp p_bp g_bq g_bs p_bs g_br p_br (x0, ()) (k + 1) pt6 (h0_bt x0 h0 h1) =
  (bif (decide (h1 < (List.length x0.2.2.2.2.2.2 : Int))) then (bif (fitS h0 (ByteArray.mk (Array.mk [(32 : UInt8)]))) then (bif (bif (decide ((0 : Int) <= h1)) then (decide (h1 < (List.length x0.2.2.2.2.2.2 : Int))) else false) then (cl (p_bs ((rdL (e := S_SpcTest) x0.2.2.2.2.2.2 h1), ())) (g_bs ((rdL (e := S_SpcTest) x0.2.2.2.2.2.2 h1), ())) fun y0 => (bif (fitS (ByteArray.append h0 (ByteArray.mk (Array.mk [(32 : UInt8)]))) y0.1) then (r_bt g_bo p_bo g_bp p_bp g_bq g_bs p_bs g_br p_br (x0, ()) k pt6 (h0_bt x0 (ByteArray.append (ByteArray.append h0 (ByteArray.mk (Array.mk [(32 : UInt8)]))) y0.1) (w64 (h1 + (1 : Int))))) else none)) else none) else none) else (some (h0, ()))) := by kernel_rfl
theorem S_bt (h_bo : C_bo p_bo g_bo) (h_bp : C_bp p_bp g_bp) (h_bq : C_bq (fun _ => true) g_bq) (h_bs : C_bs p_bs g_bs) (h_br : C_br p_br g_br) {pre : In_bt -> Bool} {fn : In_bt -> Out_bt} (hev : ∀ x, pre x = true -> ∃ k, E_bt g_bo p_bo g_bp p_bp g_bq g_bs p_bs g_br p_br k x = some (fn x)) : C_bt pre fn := sound tysOk mixed (fn := Tryz.f202) rfl rfl rfl (.cons h_bo (.cons h_bp (.cons h_bq (.cons h_bs (.cons h_br .nil))))) _ hev
end
/-! bu: sl10Text -/
abbrev M_bu : List Vm.Mode := [.imm I, .imm .str]
abbrev R_bu : List (RK × Sh) := [(.imm, I)]
abbrev In_bu : Type := (insSh M_bu).den
abbrev Out_bu : Type := (outSh R_bu M_bu).den
abbrev C_bu (pre : In_bu -> Bool) (fn : In_bu -> Out_bu) : Prop := Sound Tryz.prog 201 ⟨M_bu, R_bu, pre, fn⟩
section
variable (g_ah : In_ah -> Out_ah)
abbrev X_bu : Ctx := ctx tys 22 (conOf [(153, ⟨M_ah, R_ah, fun _ => true, g_ah⟩)]) (keepOf [(pt1, (⟨[(0, .asis), (1, .asis), (5, .asis)], [], []⟩ : Keep))]) (fun _ => [])
noncomputable abbrev E_bu (k : Nat) (x : In_bu) : Option Out_bu := evFn (X_bu g_ah) Tryz.f201 R_bu M_bu k x
def h0_bu (x0 : Dm (.imm I)) (x1 : Dm (.imm .str)) (h0 : Dn I) (h1 : Dn I) : St := mkS [(0, (AV.val I h0)), (1, (AV.val Sh.str x1)), (5, (AV.val I h1))] []
noncomputable def r_bu (x : In_bu) (k : Nat) (p : List Bool) (s : St) : Option Out_bu := rounds (X_bu g_ah) Tryz.f201 R_bu M_bu x k p s
variable {g_ah}
theorem ev_bu (k : Nat) (x0 : Dm (.imm I)) (x1 : Dm (.imm .str)) : E_bu g_ah k (x0, x1, ()) =
  (r_bu g_ah (x0, x1, ()) k pt1 (h0_bu x0 x1 x0 (0 : Int))) := by kernel_rfl
theorem rd0_bu (k : Nat) (x0 : Dm (.imm I)) (x1 : Dm (.imm .str)) (h0 : Dn I) (h1 : Dn I) : r_bu g_ah (x0, x1, ()) (k + 1) pt1 (h0_bu x0 x1 h0 h1) =
  (bif (decide (h1 < ((ByteArray.size x1 : Nat) : Int))) then (bif (bif (decide ((0 : Int) <= h1)) then (decide (h1 < ((ByteArray.size x1 : Nat) : Int))) else false) then (r_bu g_ah (x0, x1, ()) k pt1 (h0_bu x0 x1 ((g_ah (h0, ((w64 (strAt x1 h1)), ()))).1) (w64 (h1 + (1 : Int))))) else none) else (some ((g_ah (h0, (((ByteArray.size x1 : Nat) : Int), ()))).1, ()))) := by kernel_rfl
theorem S_bu (h_ah : C_ah (fun _ => true) g_ah) {pre : In_bu -> Bool} {fn : In_bu -> Out_bu} (hev : ∀ x, pre x = true -> ∃ k, E_bu g_ah k x = some (fn x)) : C_bu pre fn := sound tysOk mixed (fn := Tryz.f201) rfl rfl rfl (.cons h_ah .nil) _ hev
end
/-! bv: sAudChain -/
abbrev M_bv : List Vm.Mode := [.imm I, .imm S_ReqReq]
abbrev R_bv : List (RK × Sh) := [(.imm, I)]
abbrev In_bv : Type := (insSh M_bv).den
abbrev Out_bv : Type := (outSh R_bv M_bv).den
abbrev C_bv (pre : In_bv -> Bool) (fn : In_bv -> Out_bv) : Prop := Sound Tryz.prog 176 ⟨M_bv, R_bv, pre, fn⟩
section
variable (g_bo : In_bo -> Out_bo) (p_bo : In_bo -> Bool) (g_a3 : In_a3 -> Out_a3) (g_ah : In_ah -> Out_ah) (g_bt : In_bt -> Out_bt) (p_bt : In_bt -> Bool) (g_bu : In_bu -> Out_bu) (p_bu : In_bu -> Bool)
abbrev X_bv : Ctx := ctx tys 18 (conOf [(23, ⟨M_bo, R_bo, p_bo, g_bo⟩), (66, ⟨M_a3, R_a3, fun _ => true, g_a3⟩), (153, ⟨M_ah, R_ah, fun _ => true, g_ah⟩), (202, ⟨M_bt, R_bt, p_bt, g_bt⟩), (201, ⟨M_bu, R_bu, p_bu, g_bu⟩)]) (keepOf []) (fun _ => [])
noncomputable abbrev E_bv (k : Nat) (x : In_bv) : Option Out_bv := evFn (X_bv g_bo p_bo g_a3 g_ah g_bt p_bt g_bu p_bu) Tryz.f176 R_bv M_bv k x
variable {g_bo p_bo g_a3 g_ah g_bt p_bt g_bu p_bu}
theorem ev_bv (k : Nat) (x0 : Dm (.imm I)) (x1 : Dm (.imm S_ReqReq)) : E_bv g_bo p_bo g_a3 g_ah g_bt p_bt g_bu p_bu k (x0, x1, ()) =
  (cl (p_bo (x1, ())) (g_bo (x1, ())) fun y0 => (bif (bif y0.1 then false else true) then (some ((0 : Int), ())) else (bif (bif (g_a3 (x0, ((0 : Int), ((999982 : Int), ())))).1 then false else true) then (some ((0 : Int), ())) else (cl (p_bt (x1, ())) (g_bt (x1, ())) fun y1 => (cl (p_bu ((g_ah (x0, ((3 : Int), ()))).1, (y1.1, ()))) (g_bu ((g_ah (x0, ((3 : Int), ()))).1, (y1.1, ()))) fun y2 => (some (y2.1, ()))))))) := by kernel_rfl
theorem S_bv (h_bo : C_bo p_bo g_bo) (h_a3 : C_a3 (fun _ => true) g_a3) (h_ah : C_ah (fun _ => true) g_ah) (h_bt : C_bt p_bt g_bt) (h_bu : C_bu p_bu g_bu) {pre : In_bv -> Bool} {fn : In_bv -> Out_bv} (hev : ∀ x, pre x = true -> ∃ k, E_bv g_bo p_bo g_a3 g_ah g_bt p_bt g_bu p_bu k x = some (fn x)) : C_bv pre fn := sound tysOk mixed (fn := Tryz.f176) rfl rfl rfl (.cons h_bo (.cons h_a3 (.cons h_ah (.cons h_bt (.cons h_bu .nil))))) _ hev
end
/-! bw: sAudPut -/
abbrev M_bw : List Vm.Mode := [.imm L_AudLine, .imm S_ReqReq]
abbrev R_bw : List (RK × Sh) := [(.own, L_AudLine)]
abbrev In_bw : Type := (insSh M_bw).den
abbrev Out_bw : Type := (outSh R_bw M_bw).den
abbrev C_bw (pre : In_bw -> Bool) (fn : In_bw -> Out_bw) : Prop := Sound Tryz.prog 120 ⟨M_bw, R_bw, pre, fn⟩
section
variable (g_bm : In_bm -> Out_bm) (p_bm : In_bm -> Bool) (g_bo : In_bo -> Out_bo) (p_bo : In_bo -> Bool) (g_bv : In_bv -> Out_bv) (p_bv : In_bv -> Bool)
abbrev X_bw : Ctx := ctx tys 58 (conOf [(175, ⟨M_bm, R_bm, p_bm, g_bm⟩), (23, ⟨M_bo, R_bo, p_bo, g_bo⟩), (176, ⟨M_bv, R_bv, p_bv, g_bv⟩)]) (keepOf [(pt0, (⟨[(0, .asis), (3, .asis), (5, .own), (6, .asis)], [(3, .asis)], []⟩ : Keep))]) (fun _ => [])
noncomputable abbrev E_bw (k : Nat) (x : In_bw) : Option Out_bw := evFn (X_bw g_bm p_bm g_bo p_bo g_bv p_bv) Tryz.f120 R_bw M_bw k x
def h0_bw (x0 : Dm (.imm L_AudLine)) (x1 : Dm (.imm S_ReqReq)) (h0 : Dn I) (h1 : (List (Dn S_AudLine))) : St := mkS [(0, (AV.val L_AudLine x0)), (3, (AV.ptr 3 none [])), (5, (AV.sref 2505 none [])), (6, (AV.val I h0))] [(3, (Ob.box S_ReqReq (AV.val S_ReqReq x1))), (2505, (Ob.arr 176 S_AudLine h1))]
noncomputable def r_bw (x : In_bw) (k : Nat) (p : List Bool) (s : St) : Option Out_bw := rounds (X_bw g_bm p_bm g_bo p_bo g_bv p_bv) Tryz.f120 R_bw M_bw x k p s
variable {g_bm p_bm g_bo p_bo g_bv p_bv}
theorem ev_bw (k : Nat) (x0 : Dm (.imm L_AudLine)) (x1 : Dm (.imm S_ReqReq)) : E_bw g_bm p_bm g_bo p_bo g_bv p_bv k (x0, x1, ()) =
  (r_bw g_bm p_bm g_bo p_bo g_bv p_bv (x0, x1, ()) k pt0 (h0_bw x0 x1 (0 : Int) [])) := by kernel_rfl
theorem rd0_bw (k : Nat) (x0 : Dm (.imm L_AudLine)) (x1 : Dm (.imm S_ReqReq)) (h0 : Dn I) (h1 : (List (Dn S_AudLine))) : r_bw g_bm p_bm g_bo p_bo g_bv p_bv (x0, x1, ()) (k + 1) pt0 (h0_bw x0 x1 h0 h1) =
  (lt (rdL (e := S_AudLine) x0 h0) fun s1 => (lt (w64 ((List.length x0 : Int) - (1 : Int))) fun s0 => (bif (decide (h0 < (List.length x0 : Int))) then (bif (bif (decide ((0 : Int) <= h0)) then (decide (h0 < (List.length x0 : Int))) else false) then (cl (p_bm (s1.1, ())) (g_bm (s1.1, ())) fun y0 => (bif (bif (decide ((0 : Int) <= h0)) then (decide (h0 < (List.length x0 : Int))) else false) then (bif (fitL h1 [(y0.1, s1.2)]) then (r_bw g_bm p_bm g_bo p_bo g_bv p_bv (x0, x1, ()) k pt0 (h0_bw x0 x1 (w64 (h0 + (1 : Int))) (List.append h1 [(y0.1, s1.2)]))) else none) else none)) else none) else (cl (p_bo (x1, ())) (g_bo (x1, ())) fun y1 => (bif (bif y1.1 then false else true) then (some (h1, ())) else (bif (decide ((120 : Int) <= (List.length x0 : Int))) then (some (h1, ())) else (bif (decide ((0 : Int) < (List.length x0 : Int))) then (bif (bif (decide ((0 : Int) <= s0)) then (decide (s0 < (List.length x0 : Int))) else false) then (cl (p_bm (x1, ())) (g_bm (x1, ())) fun y2 => (cl (p_bv ((rdL (e := S_AudLine) x0 s0).2, (x1, ()))) (g_bv ((rdL (e := S_AudLine) x0 s0).2, (x1, ()))) fun y3 => (bif (fitL h1 [(y2.1, y3.1)]) then (some ((List.append h1 [(y2.1, y3.1)]), ())) else none))) else none) else (cl (p_bm (x1, ())) (g_bm (x1, ())) fun y4 => (cl (p_bv ((0 : Int), (x1, ()))) (g_bv ((0 : Int), (x1, ()))) fun y5 => (bif (fitL h1 [(y4.1, y5.1)]) then (some ((List.append h1 [(y4.1, y5.1)]), ())) else none)))))))))) := by kernel_rfl
theorem S_bw (h_bm : C_bm p_bm g_bm) (h_bo : C_bo p_bo g_bo) (h_bv : C_bv p_bv g_bv) {pre : In_bw -> Bool} {fn : In_bw -> Out_bw} (hev : ∀ x, pre x = true -> ∃ k, E_bw g_bm p_bm g_bo p_bo g_bv p_bv k x = some (fn x)) : C_bw pre fn := sound tysOk mixed (fn := Tryz.f120) rfl rfl rfl (.cons h_bm (.cons h_bo (.cons h_bv .nil))) _ hev
end
/-! bx: sl21House -/
abbrev M_bx : List Vm.Mode := [.pI S_sl20Rd]
abbrev R_bx : List (RK × Sh) := [(.imm, S_HouHouse), (.imm, L_AudLine)]
abbrev In_bx : Type := (insSh M_bx).den
abbrev Out_bx : Type := (outSh R_bx M_bx).den
abbrev C_bx (pre : In_bx -> Bool) (fn : In_bx -> Out_bx) : Prop := Sound Tryz.prog 56 ⟨M_bx, R_bx, pre, fn⟩
section
variable (g_a2 : In_a2 -> Out_a2) (p_a2 : In_a2 -> Bool) (g_a4 : In_a4 -> Out_a4) (p_a4 : In_a4 -> Bool) (g_a1 : In_a1 -> Out_a1) (p_a1 : In_a1 -> Bool) (g_ao : In_ao -> Out_ao) (p_ao : In_ao -> Bool) (g_as : In_as -> Out_as) (p_as : In_as -> Bool) (g_bl : In_bl -> Out_bl) (p_bl : In_bl -> Bool) (g_bw : In_bw -> Out_bw) (p_bw : In_bw -> Bool)
abbrev X_bx : Ctx := ctx tys 43 (conOf [(118, ⟨M_a2, R_a2, p_a2, g_a2⟩), (117, ⟨M_a4, R_a4, p_a4, g_a4⟩), (58, ⟨M_a1, R_a1, p_a1, g_a1⟩), (119, ⟨M_ao, R_ao, p_ao, g_ao⟩), (63, ⟨M_as, R_as, p_as, g_as⟩), (62, ⟨M_bl, R_bl, p_bl, g_bl⟩), (120, ⟨M_bw, R_bw, p_bw, g_bw⟩)]) (keepOf [(pt2, (⟨[(0, .asis), (2, .asis), (4, .asis), (5, .own), (6, .asis)], [(2, (.pair .own (.pair .own .own))), (4, .asis), (5000, .asis)], []⟩ : Keep))]) (fzOf [(3, [4]), (10, [4])])
noncomputable abbrev E_bx (k : Nat) (x : In_bx) : Option Out_bx := evFn (X_bx g_a2 p_a2 g_a4 p_a4 g_a1 p_a1 g_ao p_ao g_as p_as g_bl p_bl g_bw p_bw) Tryz.f56 R_bx M_bx k x
def h0_bx (x0 : Dm (.pI S_sl20Rd)) (h0 : Dn I) (h1 : (List (Dn I))) (h2 : (List (Dn S_SpcSpec))) (h3 : (List (Dn S_BatBatch))) (h4 : Dn S_HouHouse) (h5 : Dn S_sl20Rd) (h6 : (List (Dn S_AudLine))) : St := mkS [(0, (AV.ptr 5000 none [])), (2, (AV.ptr 2 none [])), (4, (AV.ptr 4 none [])), (5, (AV.sref 2505 none [])), (6, (AV.val I h0))] [(2, (Ob.box S_HouHouse (AV.pair (AV.sref 2502 none []) (AV.pair (AV.sref 12502 none []) (AV.sref 22502 none []))))), (2502, (Ob.arr 3 I h1)), (12502, (Ob.arr 83 S_SpcSpec h2)), (22502, (Ob.arr 45 S_BatBatch h3)), (4, (Ob.box S_HouHouse (AV.val S_HouHouse h4))), (5000, (Ob.box S_sl20Rd (AV.val S_sl20Rd h5))), (2505, (Ob.arr 176 S_AudLine h6))]
noncomputable def r_bx (x : In_bx) (k : Nat) (p : List Bool) (s : St) : Option Out_bx := rounds (X_bx g_a2 p_a2 g_a4 p_a4 g_a1 p_a1 g_ao p_ao g_as p_as g_bl p_bl g_bw p_bw) Tryz.f56 R_bx M_bx x k p s
variable {g_a2 p_a2 g_a4 p_a4 g_a1 p_a1 g_ao p_ao g_as p_as g_bl p_bl g_bw p_bw}
theorem ev_bx (k : Nat) (x0 : Dm (.pI S_sl20Rd)) : E_bx g_a2 p_a2 g_a4 p_a4 g_a1 p_a1 g_ao p_ao g_as p_as g_bl p_bl g_bw p_bw k (x0, ()) =
  (cl (p_a2 (x0, ())) (g_a2 (x0, ())) fun y0 => (cl (p_a4 (y0.1, ())) (g_a4 (y0.1, ())) fun y1 => (cl (p_a1 (y0.2.1, ((40 : Int), ()))) (g_a1 (y0.2.1, ((40 : Int), ()))) fun y2 => (cl (p_a1 (y2.2.1, ((5 : Int), ()))) (g_a1 (y2.2.1, ((5 : Int), ()))) fun y3 => (bif (bif (decide ((0 : Int) <= y3.1)) then (decide (y3.1 < (List.length [(0 : Int), (8 : Int), (20 : Int), (32 : Int), (y2.1)] : Int))) else false) then (r_bx g_a2 p_a2 g_a4 p_a4 g_a1 p_a1 g_ao p_ao g_as p_as g_bl p_bl g_bw p_bw (x0, ()) k pt2 (h0_bx x0 (rdL (e := I) [(0 : Int), (8 : Int), (20 : Int), (32 : Int), (y2.1)] y3.1) [] [] [] (y1.1) (y3.2.1) [])) else none))))) := by kernel_rfl
theorem rd0_bx (k : Nat) (x0 : Dm (.pI S_sl20Rd)) (h0 : Dn I) (h1 : (List (Dn I))) (h2 : (List (Dn S_SpcSpec))) (h3 : (List (Dn S_BatBatch))) (h4 : Dn S_HouHouse) (h5 : Dn S_sl20Rd) (h6 : (List (Dn S_AudLine))) : r_bx g_a2 p_a2 g_a4 p_a4 g_a1 p_a1 g_ao p_ao g_as p_as g_bl p_bl g_bw p_bw (x0, ()) (k + 1) pt2 (h0_bx x0 h0 h1 h2 h3 h4 h5 h6) =
  (bif (decide ((0 : Int) < h0)) then (cl (p_ao (h5, (h4, ()))) (g_ao (h5, (h4, ()))) fun y0 => (cl (p_as (h4, ())) (g_as (h4, ())) fun y1 => (cl (p_bl (y1.1, (y0.1, ()))) (g_bl (y1.1, (y0.1, ()))) fun y2 => (bif (decide (y2.2.1 = (1 : Int))) then (cl (p_bw (h6, (y0.1, ()))) (g_bw (h6, (y0.1, ()))) fun y3 => (r_bx g_a2 p_a2 g_a4 p_a4 g_a1 p_a1 g_ao p_ao g_as p_as g_bl p_bl g_bw p_bw (x0, ()) k pt2 (h0_bx x0 (w64 (h0 - (1 : Int))) h1 h2 h3 (y2.1) (y0.2.1) (y3.1)))) else (r_bx g_a2 p_a2 g_a4 p_a4 g_a1 p_a1 g_ao p_ao g_as p_as g_bl p_bl g_bw p_bw (x0, ()) k pt2 (h0_bx x0 (w64 (h0 - (1 : Int))) h1 h2 h3 h4 (y0.2.1) h6)))))) else (some (h4, (h6, (h5, ()))))) := by kernel_rfl
theorem S_bx (h_a2 : C_a2 p_a2 g_a2) (h_a4 : C_a4 p_a4 g_a4) (h_a1 : C_a1 p_a1 g_a1) (h_ao : C_ao p_ao g_ao) (h_as : C_as p_as g_as) (h_bl : C_bl p_bl g_bl) (h_bw : C_bw p_bw g_bw) {pre : In_bx -> Bool} {fn : In_bx -> Out_bx} (hev : ∀ x, pre x = true -> ∃ k, E_bx g_a2 p_a2 g_a4 p_a4 g_a1 p_a1 g_ao p_ao g_as p_as g_bl p_bl g_bw p_bw k x = some (fn x)) : C_bx pre fn := sound tysOk mixed (fn := Tryz.f56) rfl rfl rfl (.cons h_a2 (.cons h_a4 (.cons h_a1 (.cons h_ao (.cons h_as (.cons h_bl (.cons h_bw .nil))))))) _ hev
end
/-! by: sl20Tst -/
abbrev M_by : List Vm.Mode := [.pI S_sl20Rd, .imm I]
abbrev R_by : List (RK × Sh) := [(.own, S_TstTest)]
abbrev In_by : Type := (insSh M_by).den
abbrev Out_by : Type := (outSh R_by M_by).den
abbrev C_by (pre : In_by -> Bool) (fn : In_by -> Out_by) : Prop := Sound Tryz.prog 181 ⟨M_by, R_by, pre, fn⟩
section
variable (g_a1 : In_a1 -> Out_a1) (p_a1 : In_a1 -> Bool) (g_a7 : In_a7 -> Out_a7) (p_a7 : In_a7 -> Bool) (g_b0 : In_b0 -> Out_b0) (g_af : In_af -> Out_af) (p_af : In_af -> Bool) (g_bc : In_bc -> Out_bc) (p_bc : In_bc -> Bool) (g_bd : In_bd -> Out_bd) (p_bd : In_bd -> Bool) (g_be : In_be -> Out_be) (p_be : In_be -> Bool) (g_a6 : In_a6 -> Out_a6) (p_a6 : In_a6 -> Bool)
abbrev X_by : Ctx := ctx tys 90 (conOf [(58, ⟨M_a1, R_a1, p_a1, g_a1⟩), (177, ⟨M_a7, R_a7, p_a7, g_a7⟩), (180, ⟨M_b0, R_b0, fun _ => true, g_b0⟩), (94, ⟨M_af, R_af, p_af, g_af⟩), (160, ⟨M_bc, R_bc, p_bc, g_bc⟩), (161, ⟨M_bd, R_bd, p_bd, g_bd⟩), (162, ⟨M_be, R_be, p_be, g_be⟩), (93, ⟨M_a6, R_a6, p_a6, g_a6⟩)]) (keepOf [(pt0, (⟨[(0, .asis), (1, .asis), (4, .asis), (5, .asis), (6, .asis)], [(4, (.pair .asis (.pair .asis (.pair .asis (.pair .asis .own))))), (5, (.pair .asis (.pair .asis (.pair .asis (.pair .asis .own))))), (5000, .asis)], []⟩ : Keep))]) (fun _ => [])
noncomputable abbrev E_by (k : Nat) (x : In_by) : Option Out_by := evFn (X_by g_a1 p_a1 g_a7 p_a7 g_b0 g_af p_af g_bc p_bc g_bd p_bd g_be p_be g_a6 p_a6) Tryz.f181 R_by M_by k x
def h0_by (x0 : Dm (.pI S_sl20Rd)) (x1 : Dm (.imm I)) (h0 : Dn I) (h1 : Dn S_SpcTest) (h2 : Dn I) (h3 : Dn S_DecDec) (h4 : Dn I) (h5 : (List (Dn S_DecDec))) (h6 : Dn S_SpcTest) (h7 : Dn I) (h8 : Dn S_DecDec) (h9 : Dn I) (h10 : (List (Dn S_DecDec))) (h11 : Dn S_sl20Rd) : St := mkS [(0, (AV.ptr 5000 none [])), (1, (AV.val I x1)), (4, (AV.ptr 4 none [])), (5, (AV.ptr 5 none [])), (6, (AV.val I h0))] [(4, (Ob.box S_TstTest (AV.pair (AV.val S_SpcTest h1) (AV.pair (AV.val I h2) (AV.pair (AV.val S_DecDec h3) (AV.pair (AV.val I h4) (AV.sref 2504 none []))))))), (2504, (Ob.arr 29 S_DecDec h5)), (5, (Ob.box S_TstTest (AV.pair (AV.val S_SpcTest h6) (AV.pair (AV.val I h7) (AV.pair (AV.val S_DecDec h8) (AV.pair (AV.val I h9) (AV.sref 2505 none []))))))), (2505, (Ob.arr 29 S_DecDec h10)), (5000, (Ob.box S_sl20Rd (AV.val S_sl20Rd h11)))]
noncomputable def r_by (x : In_by) (k : Nat) (p : List Bool) (s : St) : Option Out_by := rounds (X_by g_a1 p_a1 g_a7 p_a7 g_b0 g_af p_af g_bc p_bc g_bd p_bd g_be p_be g_a6 p_a6) Tryz.f181 R_by M_by x k p s
variable {g_a1 p_a1 g_a7 p_a7 g_b0 g_af p_af g_bc p_bc g_bd p_bd g_be p_be g_a6 p_a6}
theorem ev_by (k : Nat) (x0 : Dm (.pI S_sl20Rd)) (x1 : Dm (.imm I)) : E_by g_a1 p_a1 g_a7 p_a7 g_b0 g_af p_af g_bc p_bc g_bd p_bd g_be p_be g_a6 p_a6 k (x0, x1, ()) =
  (cl (p_a1 (x0, ((4 : Int), ()))) (g_a1 (x0, ((4 : Int), ()))) fun y0 => (cl (p_a7 (y0.2.1, ((w64 ((1 : Int) + y0.1)), ((9999 : Int), ())))) (g_a7 (y0.2.1, ((w64 ((1 : Int) + y0.1)), ((9999 : Int), ())))) fun y1 => (cl (p_a1 (y1.2.1, ((5 : Int), ()))) (g_a1 (y1.2.1, ((5 : Int), ()))) fun y2 => (r_by g_a1 p_a1 g_a7 p_a7 g_b0 g_af p_af g_bc p_bc g_bd p_bd g_be p_be g_a6 p_a6 (x0, x1, ()) k pt0 (h0_by x0 x1 (y2.1) ((0 : Int), (((0 : Int), (0 : Int)), (((0 : Int), (0 : Int)), (0 : Int)))) (0 : Int) ((0 : Int), (0 : Int)) (0 : Int) [] ((g_b0 (y1.1, ())).1.1) ((g_b0 (y1.1, ())).1.2.1) ((g_b0 (y1.1, ())).1.2.2.1) ((g_b0 (y1.1, ())).1.2.2.2.1) ((g_b0 (y1.1, ())).1.2.2.2.2) (y2.2.1)))))) := by kernel_rfl
theorem rd0_by (k : Nat) (x0 : Dm (.pI S_sl20Rd)) (x1 : Dm (.imm I)) (h0 : Dn I) (h1 : Dn S_SpcTest) (h2 : Dn I) (h3 : Dn S_DecDec) (h4 : Dn I) (h5 : (List (Dn S_DecDec))) (h6 : Dn S_SpcTest) (h7 : Dn I) (h8 : Dn S_DecDec) (h9 : Dn I) (h10 : (List (Dn S_DecDec))) (h11 : Dn S_sl20Rd) : r_by g_a1 p_a1 g_a7 p_a7 g_b0 g_af p_af g_bc p_bc g_bd p_bd g_be p_be g_a6 p_a6 (x0, x1, ()) (k + 1) pt0 (h0_by x0 x1 h0 h1 h2 h3 h4 h5 h6 h7 h8 h9 h10 h11) =
  (bif (decide ((0 : Int) < h0)) then (bif (decide (h7 = (0 : Int))) then (cl (p_af (h11, (h6, ()))) (g_af (h11, (h6, ()))) fun y0 => (cl (p_bc ((h6, (h7, (h8, (h9, h10)))), (y0.1, ()))) (g_bc ((h6, (h7, (h8, (h9, h10)))), (y0.1, ()))) fun y1 => (r_by g_a1 p_a1 g_a7 p_a7 g_b0 g_af p_af g_bc p_bc g_bd p_bd g_be p_be g_a6 p_a6 (x0, x1, ()) k pt0 (h0_by x0 x1 (w64 (h0 - (1 : Int))) h1 h2 h3 h4 h5 (y1.1.1) (y1.1.2.1) (y1.1.2.2.1) (y1.1.2.2.2.1) (y1.1.2.2.2.2) (y0.2.1))))) else (bif (decide (h7 = (1 : Int))) then (cl (p_a1 (h11, ((3 : Int), ()))) (g_a1 (h11, ((3 : Int), ()))) fun y2 => (cl (p_bd ((h6, (h7, (h8, (h9, h10)))), ((w64 ((1 : Int) + y2.1)), ()))) (g_bd ((h6, (h7, (h8, (h9, h10)))), ((w64 ((1 : Int) + y2.1)), ()))) fun y3 => (r_by g_a1 p_a1 g_a7 p_a7 g_b0 g_af p_af g_bc p_bc g_bd p_bd g_be p_be g_a6 p_a6 (x0, x1, ()) k pt0 (h0_by x0 x1 (w64 (h0 - (1 : Int))) h1 h2 h3 h4 h5 (y3.1.1) (y3.1.2.1) (y3.1.2.2.1) (y3.1.2.2.2.1) (y3.1.2.2.2.2) (y2.2.1))))) else (bif (decide (h7 = (2 : Int))) then (cl (p_af (h11, (h6, ()))) (g_af (h11, (h6, ()))) fun y4 => (cl (p_be ((h6, (h7, (h8, (h9, h10)))), (y4.1, ()))) (g_be ((h6, (h7, (h8, (h9, h10)))), (y4.1, ()))) fun y5 => (r_by g_a1 p_a1 g_a7 p_a7 g_b0 g_af p_af g_bc p_bc g_bd p_bd g_be p_be g_a6 p_a6 (x0, x1, ()) k pt0 (h0_by x0 x1 (w64 (h0 - (1 : Int))) h1 h2 h3 h4 h5 (y5.1.1) (y5.1.2.1) (y5.1.2.2.1) (y5.1.2.2.2.1) (y5.1.2.2.2.2) (y4.2.1))))) else (r_by g_a1 p_a1 g_a7 p_a7 g_b0 g_af p_af g_bc p_bc g_bd p_bd g_be p_be g_a6 p_a6 (x0, x1, ()) k pt0 (h0_by x0 x1 (w64 (h0 - (1 : Int))) h1 h2 h3 h4 h5 h6 h7 h8 h9 h10 h11))))) else (cl (p_a1 (h11, (x1, ()))) (g_a1 (h11, (x1, ()))) fun y6 => (bif (decide ((0 : Int) < y6.1)) then (some ((h6, (h7, (h8, (h9, h10)))), (y6.2.1, ()))) else (cl (p_a1 (y6.2.1, ((5 : Int), ()))) (g_a1 (y6.2.1, ((5 : Int), ()))) fun y7 => (bif (decide (y7.1 = (0 : Int))) then (cl (p_a1 (y7.2.1, ((7 : Int), ()))) (g_a1 (y7.2.1, ((7 : Int), ()))) fun y8 => (some ((h6, ((w64 (y8.1 - (1 : Int))), (h8, (h9, h10)))), (y8.2.1, ())))) else (bif (decide (y7.1 = (1 : Int))) then (cl (p_a6 (y7.2.1, ((2 : Int), ()))) (g_a6 (y7.2.1, ((2 : Int), ()))) fun y9 => (some ((h6, (h7, (y9.1, (h9, h10)))), (y9.2.1, ())))) else (bif (decide (y7.1 = (2 : Int))) then (cl (p_a1 (y7.2.1, ((6 : Int), ()))) (g_a1 (y7.2.1, ((6 : Int), ()))) fun y10 => (some ((h6, (h7, (h8, ((w64 (y10.1 - (1 : Int))), h10)))), (y10.2.1, ())))) else (bif (decide (y7.1 = (3 : Int))) then (cl (p_a6 (y7.2.1, ((2 : Int), ()))) (g_a6 (y7.2.1, ((2 : Int), ()))) fun y11 => (bif (fitL h10 [(y11.1)]) then (some ((h6, (h7, (h8, (h9, (List.append h10 [(y11.1)]))))), (y11.2.1, ()))) else none)) else (cl (p_a7 (y7.2.1, ((1 : Int), ((1 : Int), ())))) (g_a7 (y7.2.1, ((1 : Int), ((1 : Int), ())))) fun y12 => (some ((y12.1, (h7, (h8, (h9, h10)))), (y12.2.1, ())))))))))))) := by kernel_rfl
theorem S_by (h_a1 : C_a1 p_a1 g_a1) (h_a7 : C_a7 p_a7 g_a7) (h_b0 : C_b0 (fun _ => true) g_b0) (h_af : C_af p_af g_af) (h_bc : C_bc p_bc g_bc) (h_bd : C_bd p_bd g_bd) (h_be : C_be p_be g_be) (h_a6 : C_a6 p_a6 g_a6) {pre : In_by -> Bool} {fn : In_by -> Out_by} (hev : ∀ x, pre x = true -> ∃ k, E_by g_a1 p_a1 g_a7 p_a7 g_b0 g_af p_af g_bc p_bc g_bd p_bd g_be p_be g_a6 p_a6 k x = some (fn x)) : C_by pre fn := sound tysOk mixed (fn := Tryz.f181) rfl rfl rfl (.cons h_a1 (.cons h_a7 (.cons h_b0 (.cons h_af (.cons h_bc (.cons h_bd (.cons h_be (.cons h_a6 .nil)))))))) _ hev
end
/-! bz: sl21Spoil -/
abbrev M_bz : List Vm.Mode := [.pI S_sl20Rd, .imm S_BatBatch]
abbrev R_bz : List (RK × Sh) := [(.imm, S_BatBatch)]
abbrev In_bz : Type := (insSh M_bz).den
abbrev Out_bz : Type := (outSh R_bz M_bz).den
abbrev C_bz (pre : In_bz -> Bool) (fn : In_bz -> Out_bz) : Prop := Sound Tryz.prog 124 ⟨M_bz, R_bz, pre, fn⟩
section
variable (g_ar : In_ar -> Out_ar) (p_ar : In_ar -> Bool) (g_a1 : In_a1 -> Out_a1) (p_a1 : In_a1 -> Bool) (g_ai : In_ai -> Out_ai) (p_ai : In_ai -> Bool) (g_by : In_by -> Out_by) (p_by : In_by -> Bool)
abbrev X_bz : Ctx := ctx tys 83 (conOf [(86, ⟨M_ar, R_ar, p_ar, g_ar⟩), (58, ⟨M_a1, R_a1, p_a1, g_a1⟩), (87, ⟨M_ai, R_ai, p_ai, g_ai⟩), (181, ⟨M_by, R_by, p_by, g_by⟩)]) (keepOf []) (fzOf [(4, [3])])
noncomputable abbrev E_bz (k : Nat) (x : In_bz) : Option Out_bz := evFn (X_bz g_ar p_ar g_a1 p_a1 g_ai p_ai g_by p_by) Tryz.f124 R_bz M_bz k x
variable {g_ar p_ar g_a1 p_a1 g_ai p_ai g_by p_by}
theorem ev_bz (k : Nat) (x0 : Dm (.pI S_sl20Rd)) (x1 : Dm (.imm S_BatBatch)) : E_bz g_ar p_ar g_a1 p_a1 g_ai p_ai g_by p_by k (x0, x1, ()) =
  (cl (p_ar (x1, ())) (g_ar (x1, ())) fun y0 => (cl (p_a1 (x0, ((8 : Int), ()))) (g_a1 (x0, ((8 : Int), ()))) fun y1 => (bif (decide (y1.1 = (0 : Int))) then (cl (p_a1 (y1.2.1, ((3 : Int), ()))) (g_a1 (y1.2.1, ((3 : Int), ()))) fun y2 => (bif (bif (decide ((0 : Int) <= y2.1)) then (decide (y2.1 < (List.length [(-1 : Int), (6 : Int), (5 : Int)] : Int))) else false) then (some (((rdL (e := I) [(-1 : Int), (6 : Int), (5 : Int)] y2.1), y0.1.2), (y2.2.1, ()))) else none)) else (bif (decide (y1.1 = (1 : Int))) then (cl (p_a1 (y1.2.1, ((2 : Int), ()))) (g_a1 (y1.2.1, ((2 : Int), ()))) fun y3 => (bif (bif (decide ((0 : Int) <= y3.1)) then (decide (y3.1 < (List.length [(0 : Int), (10001 : Int)] : Int))) else false) then (some ((y0.1.1, ((rdL (e := I) [(0 : Int), (10001 : Int)] y3.1), y0.1.2.2)), (y3.2.1, ()))) else none)) else (bif (decide (y1.1 = (2 : Int))) then (cl (p_a1 (y1.2.1, ((6 : Int), ()))) (g_a1 (y1.2.1, ((6 : Int), ()))) fun y4 => (some ((y0.1.1, (y0.1.2.1, (y0.1.2.2.1, (y4.1, y0.1.2.2.2.2)))), (y4.2.1, ())))) else (bif (decide (y1.1 = (3 : Int))) then (cl (p_a1 (y1.2.1, ((7 : Int), ()))) (g_a1 (y1.2.1, ((7 : Int), ()))) fun y5 => (cl (p_a1 (y5.2.1, ((5 : Int), ()))) (g_a1 (y5.2.1, ((5 : Int), ()))) fun y6 => (cl (p_ai (y0.1, ())) (g_ai (y0.1, ())) fun y7 => (cl (p_a1 (y6.2.1, ((4 : Int), ()))) (g_a1 (y6.2.1, ((4 : Int), ()))) fun y8 => (bif (bif (decide ((0 : Int) <= y8.1)) then (decide (y8.1 < (List.length [(y7.1), (0 : Int), (-1 : Int), (999983 : Int)] : Int))) else false) then (bif (fitL y0.1.2.2.2.2.1 [(y5.1, (y6.1, (rdL (e := I) [(y7.1), (0 : Int), (-1 : Int), (999983 : Int)] y8.1)))]) then (some ((y0.1.1, (y0.1.2.1, (y0.1.2.2.1, (y0.1.2.2.2.1, ((List.append y0.1.2.2.2.2.1 [(y5.1, (y6.1, (rdL (e := I) [(y7.1), (0 : Int), (-1 : Int), (999983 : Int)] y8.1)))]), y0.1.2.2.2.2.2))))), (y8.2.1, ()))) else none) else none))))) else (bif (decide (y1.1 = (4 : Int))) then (cl (p_a1 (y1.2.1, ((2 : Int), ()))) (g_a1 (y1.2.1, ((2 : Int), ()))) fun y9 => (bif (fitL y0.1.2.2.2.2.2 [(decide (y9.1 = (0 : Int)))]) then (some ((y0.1.1, (y0.1.2.1, (y0.1.2.2.1, (y0.1.2.2.2.1, (y0.1.2.2.2.2.1, (List.append y0.1.2.2.2.2.2 [(decide (y9.1 = (0 : Int)))])))))), (y9.2.1, ()))) else none)) else (bif (decide (y1.1 = (5 : Int))) then (bif (decide ((0 : Int) < (List.length y0.1.2.2.1 : Int))) then (cl (p_by (y1.2.1, ((2 : Int), ()))) (g_by (y1.2.1, ((2 : Int), ()))) fun y10 => (bif (bif (decide ((0 : Int) <= (0 : Int))) then (decide ((0 : Int) < (List.length y0.1.2.2.1 : Int))) else false) then (some ((y0.1.1, (y0.1.2.1, ((List.set y0.1.2.2.1 (Int.toNat (0 : Int)) y10.1), y0.1.2.2.2))), (y10.2.1, ()))) else none)) else (some (y0.1, (y1.2.1, ())))) else (bif (decide (y1.1 = (6 : Int))) then (some ((y0.1.1, (y0.1.2.1, ([], y0.1.2.2.2))), (y1.2.1, ()))) else (bif (decide ((0 : Int) < (List.length y0.1.2.2.2.2.1 : Int))) then (bif (bif (decide ((0 : Int) <= (1 : Int))) then (decide ((1 : Int) <= (List.length y0.1.2.2.2.2.1 : Int))) else false) then (some ((y0.1.1, (y0.1.2.1, (y0.1.2.2.1, (y0.1.2.2.2.1, ((dropI y0.1.2.2.2.2.1 (1 : Int)), y0.1.2.2.2.2.2))))), (y1.2.1, ()))) else none) else (some (y0.1, (y1.2.1, ()))))))))))))) := by kernel_rfl
theorem S_bz (h_ar : C_ar p_ar g_ar) (h_a1 : C_a1 p_a1 g_a1) (h_ai : C_ai p_ai g_ai) (h_by : C_by p_by g_by) {pre : In_bz -> Bool} {fn : In_bz -> Out_bz} (hev : ∀ x, pre x = true -> ∃ k, E_bz g_ar p_ar g_a1 p_a1 g_ai p_ai g_by p_by k x = some (fn x)) : C_bz pre fn := sound tysOk mixed (fn := Tryz.f124) rfl rfl rfl (.cons h_ar (.cons h_a1 (.cons h_ai (.cons h_by .nil)))) _ hev
end
/-! c0: sl21Batch -/
abbrev M_c0 : List Vm.Mode := [.pI S_sl20Rd, .imm I]
abbrev R_c0 : List (RK × Sh) := [(.imm, S_BatBatch)]
abbrev In_c0 : Type := (insSh M_c0).den
abbrev Out_c0 : Type := (outSh R_c0 M_c0).den
abbrev C_c0 (pre : In_c0 -> Bool) (fn : In_c0 -> Out_c0) : Prop := Sound Tryz.prog 78 ⟨M_c0, R_c0, pre, fn⟩
section
variable (g_bx : In_bx -> Out_bx) (p_bx : In_bx -> Bool) (g_a8 : In_a8 -> Out_a8) (p_a8 : In_a8 -> Bool) (g_b1 : In_b1 -> Out_b1) (p_b1 : In_b1 -> Bool) (g_a1 : In_a1 -> Out_a1) (p_a1 : In_a1 -> Bool) (g_bz : In_bz -> Out_bz) (p_bz : In_bz -> Bool)
abbrev X_c0 : Ctx := ctx tys 53 (conOf [(56, ⟨M_bx, R_bx, p_bx, g_bx⟩), (121, ⟨M_a8, R_a8, p_a8, g_a8⟩), (123, ⟨M_b1, R_b1, p_b1, g_b1⟩), (58, ⟨M_a1, R_a1, p_a1, g_a1⟩), (124, ⟨M_bz, R_bz, p_bz, g_bz⟩)]) (keepOf [(pt0, (⟨[(0, .asis), (1, .asis), (4, .asis), (5, .asis), (7, .asis)], [(4, (.pair .asis (.pair .asis (.pair .own (.pair .asis (.pair .own .own)))))), (5, .asis), (5000, .asis)], []⟩ : Keep))]) (fun _ => [])
noncomputable abbrev E_c0 (k : Nat) (x : In_c0) : Option Out_c0 := evFn (X_c0 g_bx p_bx g_a8 p_a8 g_b1 p_b1 g_a1 p_a1 g_bz p_bz) Tryz.f78 R_c0 M_c0 k x
def h0_c0 (x0 : Dm (.pI S_sl20Rd)) (x1 : Dm (.imm I)) (h0 : Dn I) (h1 : Dn I) (h2 : Dn I) (h3 : Dn I) (h4 : (List (Dn S_TstTest))) (h5 : (List (Dn S_BatSig))) (h6 : (List (Dn Sh.bool))) (h7 : Dn S_HouHouse) (h8 : Dn S_sl20Rd) : St := mkS [(0, (AV.ptr 5000 none [])), (1, (AV.val I x1)), (4, (AV.ptr 4 none [])), (5, (AV.ptr 5 none [])), (7, (AV.val I h0))] [(4, (Ob.box S_BatBatch (AV.pair (AV.val I h1) (AV.pair (AV.val I h2) (AV.pair (AV.sref 2504 none []) (AV.pair (AV.val I h3) (AV.pair (AV.sref 12504 none []) (AV.sref 22504 none [])))))))), (2504, (Ob.arr 56 S_TstTest h4)), (12504, (Ob.arr 58 S_BatSig h5)), (22504, (Ob.arr 4 Sh.bool h6)), (5, (Ob.box S_HouHouse (AV.val S_HouHouse h7))), (5000, (Ob.box S_sl20Rd (AV.val S_sl20Rd h8)))]
noncomputable def r_c0 (x : In_c0) (k : Nat) (p : List Bool) (s : St) : Option Out_c0 := rounds (X_c0 g_bx p_bx g_a8 p_a8 g_b1 p_b1 g_a1 p_a1 g_bz p_bz) Tryz.f78 R_c0 M_c0 x k p s
variable {g_bx p_bx g_a8 p_a8 g_b1 p_b1 g_a1 p_a1 g_bz p_bz}
theorem ev_c0 (k : Nat) (x0 : Dm (.pI S_sl20Rd)) (x1 : Dm (.imm I)) : E_c0 g_bx p_bx g_a8 p_a8 g_b1 p_b1 g_a1 p_a1 g_bz p_bz k (x0, x1, ()) =
  (cl (p_bx (x0, ())) (g_bx (x0, ())) fun y0 => (r_c0 g_bx p_bx g_a8 p_a8 g_b1 p_b1 g_a1 p_a1 g_bz p_bz (x0, x1, ()) k pt0 (h0_c0 x0 x1 (0 : Int) (0 : Int) (0 : Int) (0 : Int) [] [] [] (y0.1) (y0.2.2.1)))) := by kernel_rfl
theorem rd0_c0 (k : Nat) (x0 : Dm (.pI S_sl20Rd)) (x1 : Dm (.imm I)) (h0 : Dn I) (h1 : Dn I) (h2 : Dn I) (h3 : Dn I) (h4 : (List (Dn S_TstTest))) (h5 : (List (Dn S_BatSig))) (h6 : (List (Dn Sh.bool))) (h7 : Dn S_HouHouse) (h8 : Dn S_sl20Rd) : r_c0 g_bx p_bx g_a8 p_a8 g_b1 p_b1 g_a1 p_a1 g_bz p_bz (x0, x1, ()) (k + 1) pt0 (h0_c0 x0 x1 h0 h1 h2 h3 h4 h5 h6 h7 h8) =
  (lt (decide ((List.length h7.2.2 : Int) = (0 : Int))) fun s0 => (bif (decide (h0 < (6 : Int))) then (bif s0 then (cl (p_bx (h8, ())) (g_bx (h8, ())) fun y0 => (r_c0 g_bx p_bx g_a8 p_a8 g_b1 p_b1 g_a1 p_a1 g_bz p_bz (x0, x1, ()) k pt0 (h0_c0 x0 x1 (w64 (h0 + (1 : Int))) h1 h2 h3 h4 h5 h6 (y0.1) (y0.2.2.1)))) else (bif s0 then (cl (p_a8 (h8, ((9999 : Int), ()))) (g_a8 (h8, ((9999 : Int), ()))) fun y1 => (cl (p_b1 ((0 : Int), (y1.1, ((9 : Int), ())))) (g_b1 ((0 : Int), (y1.1, ((9 : Int), ())))) fun y2 => (some (y2.1, (y1.2.1, ()))))) else (cl (p_a1 (h8, ((List.length h7.2.2 : Int), ()))) (g_a1 (h8, ((List.length h7.2.2 : Int), ()))) fun y3 => (lt (rdL (e := S_BatBatch) h7.2.2 y3.1) fun s1 => (bif (bif (decide ((0 : Int) <= y3.1)) then (decide (y3.1 < (List.length h7.2.2 : Int))) else false) then (cl (p_a1 (y3.2.1, (x1, ()))) (g_a1 (y3.2.1, (x1, ()))) fun y4 => (bif (decide (y4.1 = (0 : Int))) then (cl (p_bz (y4.2.1, (s1, ()))) (g_bz (y4.2.1, (s1, ()))) fun y5 => (some (y5.1, (y5.2.1, ())))) else (some (s1, (y4.2.1, ()))))) else none))))) else (bif s0 then (cl (p_a8 (h8, ((9999 : Int), ()))) (g_a8 (h8, ((9999 : Int), ()))) fun y6 => (cl (p_b1 ((0 : Int), (y6.1, ((9 : Int), ())))) (g_b1 ((0 : Int), (y6.1, ((9 : Int), ())))) fun y7 => (some (y7.1, (y6.2.1, ()))))) else (cl (p_a1 (h8, ((List.length h7.2.2 : Int), ()))) (g_a1 (h8, ((List.length h7.2.2 : Int), ()))) fun y8 => (lt (rdL (e := S_BatBatch) h7.2.2 y8.1) fun s2 => (bif (bif (decide ((0 : Int) <= y8.1)) then (decide (y8.1 < (List.length h7.2.2 : Int))) else false) then (cl (p_a1 (y8.2.1, (x1, ()))) (g_a1 (y8.2.1, (x1, ()))) fun y9 => (bif (decide (y9.1 = (0 : Int))) then (cl (p_bz (y9.2.1, (s2, ()))) (g_bz (y9.2.1, (s2, ()))) fun y10 => (some (y10.1, (y10.2.1, ())))) else (some (s2, (y9.2.1, ()))))) else none)))))) := by kernel_rfl
theorem S_c0 (h_bx : C_bx p_bx g_bx) (h_a8 : C_a8 p_a8 g_a8) (h_b1 : C_b1 p_b1 g_b1) (h_a1 : C_a1 p_a1 g_a1) (h_bz : C_bz p_bz g_bz) {pre : In_c0 -> Bool} {fn : In_c0 -> Out_c0} (hev : ∀ x, pre x = true -> ∃ k, E_c0 g_bx p_bx g_a8 p_a8 g_b1 p_b1 g_a1 p_a1 g_bz p_bz k x = some (fn x)) : C_c0 pre fn := sound tysOk mixed (fn := Tryz.f78) rfl rfl rfl (.cons h_bx (.cons h_a8 (.cons h_b1 (.cons h_a1 (.cons h_bz .nil))))) _ hev
end
/-! c1: sDrawBatDev -/
abbrev M_c1 : List Vm.Mode := [.imm L_u8]
abbrev R_c1 : List (RK × Sh) := [(.imm, S_BatBatch), (.imm, I), (.imm, .bool)]
abbrev In_c1 : Type := (insSh M_c1).den
abbrev Out_c1 : Type := (outSh R_c1 M_c1).den
abbrev C_c1 (pre : In_c1 -> Bool) (fn : In_c1 -> Out_c1) : Prop := Sound Tryz.prog 35 ⟨M_c1, R_c1, pre, fn⟩
section
variable (g_a0 : In_a0 -> Out_a0) (p_a0 : In_a0 -> Bool) (g_c0 : In_c0 -> Out_c0) (p_c0 : In_c0 -> Bool) (g_a1 : In_a1 -> Out_a1) (p_a1 : In_a1 -> Bool)
abbrev X_c1 : Ctx := ctx tys 23 (conOf [(55, ⟨M_a0, R_a0, p_a0, g_a0⟩), (78, ⟨M_c0, R_c0, p_c0, g_c0⟩), (58, ⟨M_a1, R_a1, p_a1, g_a1⟩)]) (keepOf []) (fun _ => [])
noncomputable abbrev E_c1 (k : Nat) (x : In_c1) : Option Out_c1 := evFn (X_c1 g_a0 p_a0 g_c0 p_c0 g_a1 p_a1) Tryz.f35 R_c1 M_c1 k x
variable {g_a0 p_a0 g_c0 p_c0 g_a1 p_a1}
theorem ev_c1 (k : Nat) (x0 : Dm (.imm L_u8)) : E_c1 g_a0 p_a0 g_c0 p_c0 g_a1 p_a1 k (x0, ()) =
  (cl (p_a0 (x0, ())) (g_a0 (x0, ())) fun y0 => (cl (p_c0 (y0.1, ((12 : Int), ()))) (g_c0 (y0.1, ((12 : Int), ()))) fun y1 => (cl (p_a1 (y1.2.1, ((4 : Int), ()))) (g_a1 (y1.2.1, ((4 : Int), ()))) fun y2 => (bif (bif (decide ((0 : Int) <= y2.1)) then (decide (y2.1 < (List.length [(List.length y1.1.2.2.2.2.2 : Int), (0 : Int), (1 : Int), (-1 : Int)] : Int))) else false) then (cl (p_a1 (y2.2.1, ((2 : Int), ()))) (g_a1 (y2.2.1, ((2 : Int), ()))) fun y3 => (some (y1.1, ((rdL (e := I) [(List.length y1.1.2.2.2.2.2 : Int), (0 : Int), (1 : Int), (-1 : Int)] y2.1), ((decide (y3.1 = (0 : Int))), ()))))) else none)))) := by kernel_rfl
theorem S_c1 (h_a0 : C_a0 p_a0 g_a0) (h_c0 : C_c0 p_c0 g_c0) (h_a1 : C_a1 p_a1 g_a1) {pre : In_c1 -> Bool} {fn : In_c1 -> Out_c1} (hev : ∀ x, pre x = true -> ∃ k, E_c1 g_a0 p_a0 g_c0 p_c0 g_a1 p_a1 k x = some (fn x)) : C_c1 pre fn := sound tysOk mixed (fn := Tryz.f35) rfl rfl rfl (.cons h_a0 (.cons h_c0 (.cons h_a1 .nil))) _ hev
end
/-! c2: gClone_DecDec -/
abbrev M_c2 : List Vm.Mode := [.imm L_DecDec]
abbrev R_c2 : List (RK × Sh) := [(.own, L_DecDec)]
abbrev In_c2 : Type := (insSh M_c2).den
abbrev Out_c2 : Type := (outSh R_c2 M_c2).den
abbrev C_c2 (pre : In_c2 -> Bool) (fn : In_c2 -> Out_c2) : Prop := Sound Tryz.prog 198 ⟨M_c2, R_c2, pre, fn⟩
abbrev X_c2 : Ctx := ctx tys 8 (conOf []) (keepOf []) (fun _ => [])
noncomputable abbrev E_c2 (k : Nat) (x : In_c2) : Option Out_c2 := evFn X_c2 Tryz.f198 R_c2 M_c2 k x
theorem ev_c2 (k : Nat) (x0 : Dm (.imm L_DecDec)) : E_c2 k (x0, ()) =
  (bif (List.isEmpty x0) then (agree (some ([], ())) (bif (fitL [] x0) then (some ((List.append [] x0), ())) else none)) else (bif (fitL [] x0) then (some ((List.append [] x0), ())) else none)) := by kernel_rfl
theorem S_c2  {pre : In_c2 -> Bool} {fn : In_c2 -> Out_c2} (hev : ∀ x, pre x = true -> ∃ k, E_c2 k x = some (fn x)) : C_c2 pre fn := sound tysOk mixed (fn := Tryz.f198) rfl rfl rfl ConsOk.nil _ hev
/-! c3: iTstTest_copied -/
abbrev M_c3 : List Vm.Mode := [.imm S_TstTest]
abbrev R_c3 : List (RK × Sh) := [(.own, S_TstTest)]
abbrev In_c3 : Type := (insSh M_c3).den
abbrev Out_c3 : Type := (outSh R_c3 M_c3).den
abbrev C_c3 (pre : In_c3 -> Bool) (fn : In_c3 -> Out_c3) : Prop := Sound Tryz.prog 163 ⟨M_c3, R_c3, pre, fn⟩
section
variable (g_c2 : In_c2 -> Out_c2) (p_c2 : In_c2 -> Bool)
abbrev X_c3 : Ctx := ctx tys 8 (conOf [(198, ⟨M_c2, R_c2, p_c2, g_c2⟩)]) (keepOf []) (fun _ => [])
noncomputable abbrev E_c3 (k : Nat) (x : In_c3) : Option Out_c3 := evFn (X_c3 g_c2 p_c2) Tryz.f163 R_c3 M_c3 k x
variable {g_c2 p_c2}
theorem ev_c3 (k : Nat) (x0 : Dm (.imm S_TstTest)) : E_c3 g_c2 p_c2 k (x0, ()) =
  (cl (p_c2 (x0.2.2.2.2, ())) (g_c2 (x0.2.2.2.2, ())) fun y0 => (some ((x0.1, (x0.2.1, (x0.2.2.1, (x0.2.2.2.1, y0.1)))), ()))) := by kernel_rfl
theorem S_c3 (h_c2 : C_c2 p_c2 g_c2) {pre : In_c3 -> Bool} {fn : In_c3 -> Out_c3} (hev : ∀ x, pre x = true -> ∃ k, E_c3 g_c2 p_c2 k x = some (fn x)) : C_c3 pre fn := sound tysOk mixed (fn := Tryz.f163) rfl rfl rfl (.cons h_c2 .nil) _ hev
end
/-! c4: gClone_BatSig -/
abbrev M_c4 : List Vm.Mode := [.imm L_BatSig]
abbrev R_c4 : List (RK × Sh) := [(.own, L_BatSig)]
abbrev In_c4 : Type := (insSh M_c4).den
abbrev Out_c4 : Type := (outSh R_c4 M_c4).den
abbrev C_c4 (pre : In_c4 -> Bool) (fn : In_c4 -> Out_c4) : Prop := Sound Tryz.prog 164 ⟨M_c4, R_c4, pre, fn⟩
abbrev X_c4 : Ctx := ctx tys 8 (conOf []) (keepOf []) (fun _ => [])
noncomputable abbrev E_c4 (k : Nat) (x : In_c4) : Option Out_c4 := evFn X_c4 Tryz.f164 R_c4 M_c4 k x
theorem ev_c4 (k : Nat) (x0 : Dm (.imm L_BatSig)) : E_c4 k (x0, ()) =
  (bif (List.isEmpty x0) then (agree (some ([], ())) (bif (fitL [] x0) then (some ((List.append [] x0), ())) else none)) else (bif (fitL [] x0) then (some ((List.append [] x0), ())) else none)) := by kernel_rfl
theorem S_c4  {pre : In_c4 -> Bool} {fn : In_c4 -> Out_c4} (hev : ∀ x, pre x = true -> ∃ k, E_c4 k x = some (fn x)) : C_c4 pre fn := sound tysOk mixed (fn := Tryz.f164) rfl rfl rfl ConsOk.nil _ hev
/-! c5: gClone_bool -/
abbrev M_c5 : List Vm.Mode := [.imm L_bool]
abbrev R_c5 : List (RK × Sh) := [(.own, L_bool)]
abbrev In_c5 : Type := (insSh M_c5).den
abbrev Out_c5 : Type := (outSh R_c5 M_c5).den
abbrev C_c5 (pre : In_c5 -> Bool) (fn : In_c5 -> Out_c5) : Prop := Sound Tryz.prog 165 ⟨M_c5, R_c5, pre, fn⟩
abbrev X_c5 : Ctx := ctx tys 8 (conOf []) (keepOf []) (fun _ => [])
noncomputable abbrev E_c5 (k : Nat) (x : In_c5) : Option Out_c5 := evFn X_c5 Tryz.f165 R_c5 M_c5 k x
theorem ev_c5 (k : Nat) (x0 : Dm (.imm L_bool)) : E_c5 k (x0, ()) =
  (bif (List.isEmpty x0) then (agree (some ([], ())) (bif (fitL [] x0) then (some ((List.append [] x0), ())) else none)) else (bif (fitL [] x0) then (some ((List.append [] x0), ())) else none)) := by kernel_rfl
theorem S_c5  {pre : In_c5 -> Bool} {fn : In_c5 -> Out_c5} (hev : ∀ x, pre x = true -> ∃ k, E_c5 k x = some (fn x)) : C_c5 pre fn := sound tysOk mixed (fn := Tryz.f165) rfl rfl rfl ConsOk.nil _ hev
/-! c6: iBatBatch_copied -/
abbrev M_c6 : List Vm.Mode := [.imm S_BatBatch]
abbrev R_c6 : List (RK × Sh) := [(.own, S_BatBatch)]
abbrev In_c6 : Type := (insSh M_c6).den
abbrev Out_c6 : Type := (outSh R_c6 M_c6).den
abbrev C_c6 (pre : In_c6 -> Bool) (fn : In_c6 -> Out_c6) : Prop := Sound Tryz.prog 104 ⟨M_c6, R_c6, pre, fn⟩
section
variable (g_c3 : In_c3 -> Out_c3) (p_c3 : In_c3 -> Bool) (g_c4 : In_c4 -> Out_c4) (p_c4 : In_c4 -> Bool) (g_c5 : In_c5 -> Out_c5) (p_c5 : In_c5 -> Bool)
abbrev X_c6 : Ctx := ctx tys 30 (conOf [(163, ⟨M_c3, R_c3, p_c3, g_c3⟩), (164, ⟨M_c4, R_c4, p_c4, g_c4⟩), (165, ⟨M_c5, R_c5, p_c5, g_c5⟩)]) (keepOf [(pt0, (⟨[(1, .asis), (2, .asis), (3, .own), (7, .asis), (8, .asis), (9, .asis)], [(1, .asis), (2, (.pair .asis (.pair .asis (.pair .own (.pair .asis (.pair .own .own))))))], []⟩ : Keep))]) (fun _ => [])
noncomputable abbrev E_c6 (k : Nat) (x : In_c6) : Option Out_c6 := evFn (X_c6 g_c3 p_c3 g_c4 p_c4 g_c5 p_c5) Tryz.f104 R_c6 M_c6 k x
def h0_c6 (x0 : Dm (.imm S_BatBatch)) (h0 : Dn I) (h1 : Dn I) (h2 : Dn I) (h3 : Dn I) (h4 : Dn I) (h5 : (List (Dn S_TstTest))) (h6 : (List (Dn S_BatSig))) (h7 : (List (Dn Sh.bool))) (h8 : (List (Dn S_TstTest))) : St := mkS [(1, (AV.ptr 1 none [])), (2, (AV.ptr 2 none [])), (3, (AV.sref 2503 none [])), (7, (AV.val L_TstTest x0.2.2.1)), (8, (AV.val I h0)), (9, (AV.val I h1))] [(1, (Ob.box S_BatBatch (AV.val S_BatBatch x0))), (2, (Ob.box S_BatBatch (AV.pair (AV.val I h2) (AV.pair (AV.val I h3) (AV.pair (AV.sref 2502 none []) (AV.pair (AV.val I h4) (AV.pair (AV.sref 12502 none []) (AV.sref 22502 none [])))))))), (2502, (Ob.arr 56 S_TstTest h5)), (12502, (Ob.arr 58 S_BatSig h6)), (22502, (Ob.arr 4 Sh.bool h7)), (2503, (Ob.arr 56 S_TstTest h8))]
noncomputable def r_c6 (x : In_c6) (k : Nat) (p : List Bool) (s : St) : Option Out_c6 := rounds (X_c6 g_c3 p_c3 g_c4 p_c4 g_c5 p_c5) Tryz.f104 R_c6 M_c6 x k p s
variable {g_c3 p_c3 g_c4 p_c4 g_c5 p_c5}
theorem ev_c6 (k : Nat) (x0 : Dm (.imm S_BatBatch)) : E_c6 g_c3 p_c3 g_c4 p_c4 g_c5 p_c5 k (x0, ()) =
  (r_c6 g_c3 p_c3 g_c4 p_c4 g_c5 p_c5 (x0, ()) k pt0 (h0_c6 x0 (List.length x0.2.2.1 : Int) (0 : Int) (0 : Int) (0 : Int) (0 : Int) [] [] [] [])) := by kernel_rfl
theorem rd0_c6 (k : Nat) (x0 : Dm (.imm S_BatBatch)) (h0 : Dn I) (h1 : Dn I) (h2 : Dn I) (h3 : Dn I) (h4 : Dn I) (h5 : (List (Dn S_TstTest))) (h6 : (List (Dn S_BatSig))) (h7 : (List (Dn Sh.bool))) (h8 : (List (Dn S_TstTest))) : r_c6 g_c3 p_c3 g_c4 p_c4 g_c5 p_c5 (x0, ()) (k + 1) pt0 (h0_c6 x0 h0 h1 h2 h3 h4 h5 h6 h7 h8) =
  (bif (decide (h1 < h0)) then (bif (bif (decide ((0 : Int) <= h1)) then (decide (h1 < (List.length x0.2.2.1 : Int))) else false) then (cl (p_c3 ((rdL (e := S_TstTest) x0.2.2.1 h1), ())) (g_c3 ((rdL (e := S_TstTest) x0.2.2.1 h1), ())) fun y0 => (bif (fitL h8 [(y0.1)]) then (r_c6 g_c3 p_c3 g_c4 p_c4 g_c5 p_c5 (x0, ()) k pt0 (h0_c6 x0 h0 (w64 (h1 + (1 : Int))) h2 h3 h4 h5 h6 h7 (List.append h8 [(y0.1)]))) else none)) else none) else (cl (p_c4 (x0.2.2.2.2.1, ())) (g_c4 (x0.2.2.2.2.1, ())) fun y1 => (cl (p_c5 (x0.2.2.2.2.2, ())) (g_c5 (x0.2.2.2.2.2, ())) fun y2 => (some ((x0.1, (x0.2.1, (h8, (x0.2.2.2.1, (y1.1, y2.1))))), ()))))) := by kernel_rfl
theorem S_c6 (h_c3 : C_c3 p_c3 g_c3) (h_c4 : C_c4 p_c4 g_c4) (h_c5 : C_c5 p_c5 g_c5) {pre : In_c6 -> Bool} {fn : In_c6 -> Out_c6} (hev : ∀ x, pre x = true -> ∃ k, E_c6 g_c3 p_c3 g_c4 p_c4 g_c5 p_c5 k x = some (fn x)) : C_c6 pre fn := sound tysOk mixed (fn := Tryz.f104) rfl rfl rfl (.cons h_c3 (.cons h_c4 (.cons h_c5 .nil))) _ hev
end
/-! iin -/
abbrev M_iin : List Vm.Mode := [.imm I, .imm I, .imm I]
abbrev R_iin : List (RK × Sh) := [(.imm, .bool)]
abbrev In_iin : Type := (insSh M_iin).den
abbrev Out_iin : Type := (outSh R_iin M_iin).den
abbrev C_iin (pre : In_iin -> Bool) (fn : In_iin -> Out_iin) : Prop := Sound Tryz.prog 65 ⟨M_iin, R_iin, pre, fn⟩
abbrev X_iin : Ctx := ctx tys 15 (conOf []) (keepOf []) (fun _ => [])
noncomputable abbrev E_iin (k : Nat) (x : In_iin) : Option Out_iin := evFn X_iin Tryz.f65 R_iin M_iin k x
theorem ev_iin (k : Nat) (x0 : Dm (.imm I)) (x1 : Dm (.imm I)) (x2 : Dm (.imm I)) : E_iin k (x0, x1, x2, ()) =
  (bif (decide (x1 <= x0)) then (some ((decide (x0 <= x2)), ())) else (some (false, ()))) := by kernel_rfl
theorem S_iin  {pre : In_iin -> Bool} {fn : In_iin -> Out_iin} (hev : ∀ x, pre x = true -> ∃ k, E_iin k x = some (fn x)) : C_iin pre fn := sound tysOk mixed (fn := Tryz.f65) rfl rfl rfl ConsOk.nil _ hev
/-! c7: iisTest -/
abbrev M_c7 : List Vm.Mode := [.imm I]
abbrev R_c7 : List (RK × Sh) := [(.imm, .bool)]
abbrev In_c7 : Type := (insSh M_c7).den
abbrev Out_c7 : Type := (outSh R_c7 M_c7).den
abbrev C_c7 (pre : In_c7 -> Bool) (fn : In_c7 -> Out_c7) : Prop := Sound Tryz.prog 76 ⟨M_c7, R_c7, pre, fn⟩
section
variable (g_iin : In_iin -> Out_iin)
abbrev X_c7 : Ctx := ctx tys 5 (conOf [(65, ⟨M_iin, R_iin, fun _ => true, g_iin⟩)]) (keepOf []) (fun _ => [])
noncomputable abbrev E_c7 (k : Nat) (x : In_c7) : Option Out_c7 := evFn (X_c7 g_iin) Tryz.f76 R_c7 M_c7 k x
variable {g_iin}
theorem ev_c7 (k : Nat) (x0 : Dm (.imm I)) : E_c7 g_iin k (x0, ()) =
  (some ((g_iin (x0, ((1 : Int), ((4 : Int), ())))).1, ())) := by kernel_rfl
theorem S_c7 (h_iin : C_iin (fun _ => true) g_iin) {pre : In_c7 -> Bool} {fn : In_c7 -> Out_c7} (hev : ∀ x, pre x = true -> ∃ k, E_c7 g_iin k x = some (fn x)) : C_c7 pre fn := sound tysOk mixed (fn := Tryz.f76) rfl rfl rfl (.cons h_iin .nil) _ hev
end
/-! c8: ipower -/
abbrev M_c8 : List Vm.Mode := [.imm I]
abbrev R_c8 : List (RK × Sh) := [(.imm, I)]
abbrev In_c8 : Type := (insSh M_c8).den
abbrev Out_c8 : Type := (outSh R_c8 M_c8).den
abbrev C_c8 (pre : In_c8 -> Bool) (fn : In_c8 -> Out_c8) : Prop := Sound Tryz.prog 143 ⟨M_c8, R_c8, pre, fn⟩
abbrev X_c8 : Ctx := ctx tys 11 (conOf []) (keepOf [(pt0, (⟨[(3, .asis), (4, .asis), (5, .asis)], [], []⟩ : Keep))]) (fun _ => [])
noncomputable abbrev E_c8 (k : Nat) (x : In_c8) : Option Out_c8 := evFn X_c8 Tryz.f143 R_c8 M_c8 k x
def h0_c8 (x0 : Dm (.imm I)) (h0 : Dn I) (h1 : Dn I) : St := mkS [(3, (AV.val I h0)), (4, (AV.val I x0)), (5, (AV.val I h1))] []
noncomputable def r_c8 (x : In_c8) (k : Nat) (p : List Bool) (s : St) : Option Out_c8 := rounds X_c8 Tryz.f143 R_c8 M_c8 x k p s
theorem ev_c8 (k : Nat) (x0 : Dm (.imm I)) : E_c8 k (x0, ()) =
  (r_c8  (x0, ()) k pt0 (h0_c8 x0 (1 : Int) (0 : Int))) := by kernel_rfl
theorem rd0_c8 (k : Nat) (x0 : Dm (.imm I)) (h0 : Dn I) (h1 : Dn I) : r_c8  (x0, ()) (k + 1) pt0 (h0_c8 x0 h0 h1) =
  (bif (decide (h1 < x0)) then (r_c8  (x0, ()) k pt0 (h0_c8 x0 (w64 (h0 * (10 : Int))) (w64 (h1 + (1 : Int))))) else (some (h0, ()))) := by kernel_rfl
theorem S_c8  {pre : In_c8 -> Bool} {fn : In_c8 -> Out_c8} (hev : ∀ x, pre x = true -> ∃ k, E_c8 k x = some (fn x)) : C_c8 pre fn := sound tysOk mixed (fn := Tryz.f143) rfl rfl rfl ConsOk.nil _ hev
/-! c9: iDecOk -/
abbrev M_c9 : List Vm.Mode := [.imm S_DecDec]
abbrev R_c9 : List (RK × Sh) := [(.imm, .bool)]
abbrev In_c9 : Type := (insSh M_c9).den
abbrev Out_c9 : Type := (outSh R_c9 M_c9).den
abbrev C_c9 (pre : In_c9 -> Bool) (fn : In_c9 -> Out_c9) : Prop := Sound Tryz.prog 75 ⟨M_c9, R_c9, pre, fn⟩
section
variable (g_iin : In_iin -> Out_iin) (g_c8 : In_c8 -> Out_c8) (p_c8 : In_c8 -> Bool)
abbrev X_c9 : Ctx := ctx tys 19 (conOf [(65, ⟨M_iin, R_iin, fun _ => true, g_iin⟩), (143, ⟨M_c8, R_c8, p_c8, g_c8⟩)]) (keepOf []) (fun _ => [])
noncomputable abbrev E_c9 (k : Nat) (x : In_c9) : Option Out_c9 := evFn (X_c9 g_iin g_c8 p_c8) Tryz.f75 R_c9 M_c9 k x
variable {g_iin g_c8 p_c8}
theorem ev_c9 (k : Nat) (x0 : Dm (.imm S_DecDec)) : E_c9 g_iin g_c8 p_c8 k (x0, ()) =
  (bif (g_iin (x0.2, ((0 : Int), ((3 : Int), ())))).1 then (bif (p_c8 (x0.2, ())) then (bif (p_c8 (x0.2, ())) then (some ((g_iin (x0.1, ((w64 ((-9999 : Int) * (g_c8 (x0.2, ())).1)), ((w64 ((9999 : Int) * (g_c8 (x0.2, ())).1)), ())))).1, ())) else none) else none) else (some (false, ()))) := by kernel_rfl
theorem S_c9 (h_iin : C_iin (fun _ => true) g_iin) (h_c8 : C_c8 p_c8 g_c8) {pre : In_c9 -> Bool} {fn : In_c9 -> Out_c9} (hev : ∀ x, pre x = true -> ∃ k, E_c9 g_iin g_c8 p_c8 k x = some (fn x)) : C_c9 pre fn := sound tysOk mixed (fn := Tryz.f75) rfl rfl rfl (.cons h_iin (.cons h_c8 .nil)) _ hev
end
/-! ca: inearest -/
abbrev M_ca : List Vm.Mode := [.imm I, .imm I]
abbrev R_ca : List (RK × Sh) := [(.imm, I)]
abbrev In_ca : Type := (insSh M_ca).den
abbrev Out_ca : Type := (outSh R_ca M_ca).den
abbrev C_ca (pre : In_ca -> Bool) (fn : In_ca -> Out_ca) : Prop := Sound Tryz.prog 213 ⟨M_ca, R_ca, pre, fn⟩
section
variable (g_ca : In_ca -> Out_ca) (p_ca : In_ca -> Bool)
abbrev X_ca : Ctx := ctx tys 19 (conOf [(213, ⟨M_ca, R_ca, p_ca, g_ca⟩)]) (keepOf []) (fun _ => [])
noncomputable abbrev E_ca (k : Nat) (x : In_ca) : Option Out_ca := evFn (X_ca g_ca p_ca) Tryz.f213 R_ca M_ca k x
variable {g_ca p_ca}
theorem ev_ca (k : Nat) (x0 : Dm (.imm I)) (x1 : Dm (.imm I)) : E_ca g_ca p_ca k (x0, x1, ()) =
  (bif (decide (x0 < (0 : Int))) then (bif (p_ca ((w64 ((0 : Int) - x0)), (x1, ()))) then (some ((w64 ((0 : Int) - (g_ca ((w64 ((0 : Int) - x0)), (x1, ()))).1)), ())) else none) else (bif (bif (decide ((w64 ((2 : Int) * x1)) = (0 : Int))) then false else true) then (some ((w64 (Int.tdiv (w64 ((w64 ((2 : Int) * x0)) + x1)) (w64 ((2 : Int) * x1)))), ())) else none)) := by kernel_rfl
theorem S_ca (h_ca : C_ca p_ca g_ca) {pre : In_ca -> Bool} {fn : In_ca -> Out_ca} (hev : ∀ x, pre x = true -> ∃ k, E_ca g_ca p_ca k x = some (fn x)) : C_ca pre fn := sound tysOk mixed (fn := Tryz.f213) rfl rfl rfl (.cons h_ca .nil) _ hev
end
theorem S0_ca {fn : In_ca -> Out_ca} : C_ca (fun _ => false) fn := sound tysOk mixed (fn := Tryz.f213) (n := 19) (keep := keepOf []) (fz := fun _ => []) rfl rfl rfl ConsOk.nil _ fun x hx => by cases hx
/-! cb: iDecAt -/
abbrev M_cb : List Vm.Mode := [.imm S_DecDec, .imm I]
abbrev R_cb : List (RK × Sh) := [(.imm, S_DecDec)]
abbrev In_cb : Type := (insSh M_cb).den
abbrev Out_cb : Type := (outSh R_cb M_cb).den
abbrev C_cb (pre : In_cb -> Bool) (fn : In_cb -> Out_cb) : Prop := Sound Tryz.prog 197 ⟨M_cb, R_cb, pre, fn⟩
section
variable (g_c9 : In_c9 -> Out_c9) (g_iin : In_iin -> Out_iin) (g_c8 : In_c8 -> Out_c8) (p_c8 : In_c8 -> Bool) (g_ca : In_ca -> Out_ca) (p_ca : In_ca -> Bool)
abbrev X_cb : Ctx := ctx tys 40 (conOf [(75, ⟨M_c9, R_c9, fun _ => true, g_c9⟩), (65, ⟨M_iin, R_iin, fun _ => true, g_iin⟩), (143, ⟨M_c8, R_c8, p_c8, g_c8⟩), (213, ⟨M_ca, R_ca, p_ca, g_ca⟩)]) (keepOf []) (fun _ => [])
noncomputable abbrev E_cb (k : Nat) (x : In_cb) : Option Out_cb := evFn (X_cb g_c9 g_iin g_c8 p_c8 g_ca p_ca) Tryz.f197 R_cb M_cb k x
variable {g_c9 g_iin g_c8 p_c8 g_ca p_ca}
theorem ev_cb (k : Nat) (x0 : Dm (.imm S_DecDec)) (x1 : Dm (.imm I)) : E_cb g_c9 g_iin g_c8 p_c8 g_ca p_ca k (x0, x1, ()) =
  (bif (bif (g_c9 (x0, ())).1 then false else true) then (some (((0 : Int), (0 : Int)), ())) else (bif (bif (g_iin (x1, ((0 : Int), ((3 : Int), ())))).1 then false else true) then (some (((0 : Int), (0 : Int)), ())) else (bif (decide (x0.2 <= x1)) then (bif (p_c8 ((w64 (x1 - x0.2)), ())) then (some (((w64 (x0.1 * (g_c8 ((w64 (x1 - x0.2)), ())).1)), x1), ())) else none) else (bif (p_c8 ((w64 (x0.2 - x1)), ())) then (bif (p_ca (x0.1, ((g_c8 ((w64 (x0.2 - x1)), ())).1, ()))) then (some (((g_ca (x0.1, ((g_c8 ((w64 (x0.2 - x1)), ())).1, ()))).1, x1), ())) else none) else none)))) := by kernel_rfl
theorem S_cb (h_c9 : C_c9 (fun _ => true) g_c9) (h_iin : C_iin (fun _ => true) g_iin) (h_c8 : C_c8 p_c8 g_c8) (h_ca : C_ca p_ca g_ca) {pre : In_cb -> Bool} {fn : In_cb -> Out_cb} (hev : ∀ x, pre x = true -> ∃ k, E_cb g_c9 g_iin g_c8 p_c8 g_ca p_ca k x = some (fn x)) : C_cb pre fn := sound tysOk mixed (fn := Tryz.f197) rfl rfl rfl (.cons h_c9 (.cons h_iin (.cons h_c8 (.cons h_ca .nil)))) _ hev
end
/-! cc: gisNaN_int -/
abbrev M_cc : List Vm.Mode := [.imm I]
abbrev R_cc : List (RK × Sh) := [(.imm, .bool)]
abbrev In_cc : Type := (insSh M_cc).den
abbrev Out_cc : Type := (outSh R_cc M_cc).den
abbrev C_cc (pre : In_cc -> Bool) (fn : In_cc -> Out_cc) : Prop := Sound Tryz.prog 220 ⟨M_cc, R_cc, pre, fn⟩
abbrev X_cc : Ctx := ctx tys 6 (conOf []) (keepOf []) (fun _ => [])
noncomputable abbrev E_cc (k : Nat) (x : In_cc) : Option Out_cc := evFn X_cc Tryz.f220 R_cc M_cc k x
theorem ev_cc (k : Nat) (x0 : Dm (.imm I)) : E_cc k (x0, ()) =
  (some ((bif (decide (x0 = x0)) then false else true), ())) := by kernel_rfl
theorem S_cc  {pre : In_cc -> Bool} {fn : In_cc -> Out_cc} (hev : ∀ x, pre x = true -> ∃ k, E_cc k x = some (fn x)) : C_cc pre fn := sound tysOk mixed (fn := Tryz.f220) rfl rfl rfl ConsOk.nil _ hev
/-! cd: gCompare_int -/
abbrev M_cd : List Vm.Mode := [.imm I, .imm I]
abbrev R_cd : List (RK × Sh) := [(.imm, I)]
abbrev In_cd : Type := (insSh M_cd).den
abbrev Out_cd : Type := (outSh R_cd M_cd).den
abbrev C_cd (pre : In_cd -> Bool) (fn : In_cd -> Out_cd) : Prop := Sound Tryz.prog 208 ⟨M_cd, R_cd, pre, fn⟩
section
variable (g_cc : In_cc -> Out_cc)
abbrev X_cd : Ctx := ctx tys 20 (conOf [(220, ⟨M_cc, R_cc, fun _ => true, g_cc⟩)]) (keepOf []) (fun _ => [])
noncomputable abbrev E_cd (k : Nat) (x : In_cd) : Option Out_cd := evFn (X_cd g_cc) Tryz.f208 R_cd M_cd k x
variable {g_cc}
theorem ev_cd (k : Nat) (x0 : Dm (.imm I)) (x1 : Dm (.imm I)) : E_cd g_cc k (x0, x1, ()) =
  (bif (g_cc (x0, ())).1 then (bif (g_cc (x1, ())).1 then (some ((0 : Int), ())) else (some ((-1 : Int), ()))) else (bif (g_cc (x1, ())).1 then (some ((1 : Int), ())) else (bif (decide (x0 < x1)) then (some ((-1 : Int), ())) else (bif (decide (x1 < x0)) then (some ((1 : Int), ())) else (some ((0 : Int), ())))))) := by kernel_rfl
theorem S_cd (h_cc : C_cc (fun _ => true) g_cc) {pre : In_cd -> Bool} {fn : In_cd -> Out_cd} (hev : ∀ x, pre x = true -> ∃ k, E_cd g_cc k x = some (fn x)) : C_cd pre fn := sound tysOk mixed (fn := Tryz.f208) rfl rfl rfl (.cons h_cc .nil) _ hev
end
/-! ce: iDecCmp -/
abbrev M_ce : List Vm.Mode := [.imm S_DecDec, .imm S_DecDec]
abbrev R_ce : List (RK × Sh) := [(.imm, I)]
abbrev In_ce : Type := (insSh M_ce).den
abbrev Out_ce : Type := (outSh R_ce M_ce).den
abbrev C_ce (pre : In_ce -> Bool) (fn : In_ce -> Out_ce) : Prop := Sound Tryz.prog 188 ⟨M_ce, R_ce, pre, fn⟩
section
variable (g_c9 : In_c9 -> Out_c9) (g_cb : In_cb -> Out_cb) (g_cd : In_cd -> Out_cd)
abbrev X_ce : Ctx := ctx tys 20 (conOf [(75, ⟨M_c9, R_c9, fun _ => true, g_c9⟩), (197, ⟨M_cb, R_cb, fun _ => true, g_cb⟩), (208, ⟨M_cd, R_cd, fun _ => true, g_cd⟩)]) (keepOf []) (fun _ => [])
noncomputable abbrev E_ce (k : Nat) (x : In_ce) : Option Out_ce := evFn (X_ce g_c9 g_cb g_cd) Tryz.f188 R_ce M_ce k x
variable {g_c9 g_cb g_cd}
theorem ev_ce (k : Nat) (x0 : Dm (.imm S_DecDec)) (x1 : Dm (.imm S_DecDec)) : E_ce g_c9 g_cb g_cd k (x0, x1, ()) =
  (bif (bif (g_c9 (x0, ())).1 then false else true) then (some ((0 : Int), ())) else (bif (bif (g_c9 (x1, ())).1 then false else true) then (some ((0 : Int), ())) else (some ((g_cd ((g_cb (x0, ((3 : Int), ()))).1.1, ((g_cb (x1, ((3 : Int), ()))).1.1, ()))).1, ())))) := by kernel_rfl
theorem S_ce (h_c9 : C_c9 (fun _ => true) g_c9) (h_cb : C_cb (fun _ => true) g_cb) (h_cd : C_cd (fun _ => true) g_cd) {pre : In_ce -> Bool} {fn : In_ce -> Out_ce} (hev : ∀ x, pre x = true -> ∃ k, E_ce g_c9 g_cb g_cd k x = some (fn x)) : C_ce pre fn := sound tysOk mixed (fn := Tryz.f188) rfl rfl rfl (.cons h_c9 (.cons h_cb (.cons h_cd .nil))) _ hev
end
/-! cf: iSpcTest_ok -/
abbrev M_cf : List Vm.Mode := [.imm S_SpcTest]
abbrev R_cf : List (RK × Sh) := [(.imm, .bool)]
abbrev In_cf : Type := (insSh M_cf).den
abbrev Out_cf : Type := (outSh R_cf M_cf).den
abbrev C_cf (pre : In_cf -> Bool) (fn : In_cf -> Out_cf) : Prop := Sound Tryz.prog 142 ⟨M_cf, R_cf, pre, fn⟩
section
variable (g_c7 : In_c7 -> Out_c7) (g_c9 : In_c9 -> Out_c9) (g_ce : In_ce -> Out_ce) (g_iin : In_iin -> Out_iin)
abbrev X_cf : Ctx := ctx tys 29 (conOf [(76, ⟨M_c7, R_c7, fun _ => true, g_c7⟩), (75, ⟨M_c9, R_c9, fun _ => true, g_c9⟩), (188, ⟨M_ce, R_ce, fun _ => true, g_ce⟩), (65, ⟨M_iin, R_iin, fun _ => true, g_iin⟩)]) (keepOf []) (fun _ => [])
noncomputable abbrev E_cf (k : Nat) (x : In_cf) : Option Out_cf := evFn (X_cf g_c7 g_c9 g_ce g_iin) Tryz.f142 R_cf M_cf k x
variable {g_c7 g_c9 g_ce g_iin}
theorem ev_cf (k : Nat) (x0 : Dm (.imm S_SpcTest)) : E_cf g_c7 g_c9 g_ce g_iin k (x0, ()) =
  (bif (g_c7 (x0.1, ())).1 then (bif (g_c9 (x0.2.1, ())).1 then (bif (g_c9 (x0.2.2.1, ())).1 then (bif (decide ((g_ce (x0.2.1, (x0.2.2.1, ()))).1 <= (0 : Int))) then (some ((g_iin (x0.2.2.2, ((0 : Int), ((3 : Int), ())))).1, ())) else (some (false, ()))) else (some (false, ()))) else (some (false, ()))) else (some (false, ()))) := by kernel_rfl
theorem S_cf (h_c7 : C_c7 (fun _ => true) g_c7) (h_c9 : C_c9 (fun _ => true) g_c9) (h_ce : C_ce (fun _ => true) g_ce) (h_iin : C_iin (fun _ => true) g_iin) {pre : In_cf -> Bool} {fn : In_cf -> Out_cf} (hev : ∀ x, pre x = true -> ∃ k, E_cf g_c7 g_c9 g_ce g_iin k x = some (fn x)) : C_cf pre fn := sound tysOk mixed (fn := Tryz.f142) rfl rfl rfl (.cons h_c7 (.cons h_c9 (.cons h_ce (.cons h_iin .nil)))) _ hev
end
/-! cg: idecsOk_c1 -/
abbrev M_cg : List Vm.Mode := [.imm S_DecDec]
abbrev R_cg : List (RK × Sh) := [(.imm, .bool)]
abbrev In_cg : Type := (insSh M_cg).den
abbrev Out_cg : Type := (outSh R_cg M_cg).den
abbrev C_cg (pre : In_cg -> Bool) (fn : In_cg -> Out_cg) : Prop := Sound Tryz.prog 194 ⟨M_cg, R_cg, pre, fn⟩
section
variable (g_c9 : In_c9 -> Out_c9)
abbrev X_cg : Ctx := ctx tys 6 (conOf [(75, ⟨M_c9, R_c9, fun _ => true, g_c9⟩)]) (keepOf []) (fun _ => [])
noncomputable abbrev E_cg (k : Nat) (x : In_cg) : Option Out_cg := evFn (X_cg g_c9) Tryz.f194 R_cg M_cg k x
variable {g_c9}
theorem ev_cg (k : Nat) (x0 : Dm (.imm S_DecDec)) : E_cg g_c9 k (x0, ()) =
  (some ((bif (g_c9 (x0, ())).1 then false else true), ())) := by kernel_rfl
theorem S_cg (h_c9 : C_c9 (fun _ => true) g_c9) {pre : In_cg -> Bool} {fn : In_cg -> Out_cg} (hev : ∀ x, pre x = true -> ∃ k, E_cg g_c9 k x = some (fn x)) : C_cg pre fn := sound tysOk mixed (fn := Tryz.f194) rfl rfl rfl (.cons h_c9 .nil) _ hev
end
/-! ch: gIndexFunc_DecDec__idecsOk_c1 -/
abbrev M_ch : List Vm.Mode := [.imm L_DecDec, .clo 194 []]
abbrev R_ch : List (RK × Sh) := [(.imm, I)]
abbrev In_ch : Type := (insSh M_ch).den
abbrev Out_ch : Type := (outSh R_ch M_ch).den
abbrev C_ch (pre : In_ch -> Bool) (fn : In_ch -> Out_ch) : Prop := Sound Tryz.prog 211 ⟨M_ch, R_ch, pre, fn⟩
section
variable (g_cg : In_cg -> Out_cg)
abbrev X_ch : Ctx := ctx tys 19 (conOf [(194, ⟨M_cg, R_cg, fun _ => true, g_cg⟩)]) (keepOf [(pt1, (⟨[(0, .asis), (1, .asis), (7, .asis), (8, .asis)], [], []⟩ : Keep))]) (fun _ => [])
noncomputable abbrev E_ch (k : Nat) (x : In_ch) : Option Out_ch := evFn (X_ch g_cg) Tryz.f211 R_ch M_ch k x
def h0_ch (x0 : Dm (.imm L_DecDec)) (x1 : Dm (.clo 194 [])) (h0 : Dn I) (h1 : Dn I) : St := mkS [(0, (AV.val L_DecDec x0)), (1, (AV.fn 194 [])), (7, (AV.val I h0)), (8, (AV.val I h1))] []
noncomputable def r_ch (x : In_ch) (k : Nat) (p : List Bool) (s : St) : Option Out_ch := rounds (X_ch g_cg) Tryz.f211 R_ch M_ch x k p s
variable {g_cg}
theorem ev_ch (k : Nat) (x0 : Dm (.imm L_DecDec)) (x1 : Dm (.clo 194 [])) : E_ch g_cg k (x0, x1, ()) =
  (r_ch g_cg (x0, x1, ()) k pt1 (h0_ch x0 x1 (List.length x0 : Int) (0 : Int))) := by kernel_rfl
theorem rd0_ch (k : Nat) (x0 : Dm (.imm L_DecDec)) (x1 : Dm (.clo 194 [])) (h0 : Dn I) (h1 : Dn I) : r_ch g_cg (x0, x1, ()) (k + 1) pt1 (h0_ch x0 x1 h0 h1) =
  (bif (decide (h1 < h0)) then (bif (bif (decide ((0 : Int) <= h1)) then (decide (h1 < (List.length x0 : Int))) else false) then (bif (g_cg ((rdL (e := S_DecDec) x0 h1), ())).1 then (some (h1, ())) else (r_ch g_cg (x0, x1, ()) k pt1 (h0_ch x0 x1 h0 (w64 (h1 + (1 : Int)))))) else none) else (some ((-1 : Int), ()))) := by kernel_rfl
theorem S_ch (h_cg : C_cg (fun _ => true) g_cg) {pre : In_ch -> Bool} {fn : In_ch -> Out_ch} (hev : ∀ x, pre x = true -> ∃ k, E_ch g_cg k x = some (fn x)) : C_ch pre fn := sound tysOk mixed (fn := Tryz.f211) rfl rfl rfl (.cons h_cg .nil) _ hev
end
/-! ci: gContainsFunc_DecDec__idecsOk_c1 -/
abbrev M_ci : List Vm.Mode := [.imm L_DecDec, .clo 194 []]
abbrev R_ci : List (RK × Sh) := [(.imm, .bool)]
abbrev In_ci : Type := (insSh M_ci).den
abbrev Out_ci : Type := (outSh R_ci M_ci).den
abbrev C_ci (pre : In_ci -> Bool) (fn : In_ci -> Out_ci) : Prop := Sound Tryz.prog 193 ⟨M_ci, R_ci, pre, fn⟩
section
variable (g_ch : In_ch -> Out_ch) (p_ch : In_ch -> Bool)
abbrev X_ci : Ctx := ctx tys 9 (conOf [(211, ⟨M_ch, R_ch, p_ch, g_ch⟩)]) (keepOf []) (fun _ => [])
noncomputable abbrev E_ci (k : Nat) (x : In_ci) : Option Out_ci := evFn (X_ci g_ch p_ch) Tryz.f193 R_ci M_ci k x
variable {g_ch p_ch}
theorem ev_ci (k : Nat) (x0 : Dm (.imm L_DecDec)) (x1 : Dm (.clo 194 [])) : E_ci g_ch p_ch k (x0, x1, ()) =
  (bif (p_ch (x0, ((), ()))) then (some ((decide ((0 : Int) <= (g_ch (x0, ((), ()))).1)), ())) else none) := by kernel_rfl
theorem S_ci (h_ch : C_ch p_ch g_ch) {pre : In_ci -> Bool} {fn : In_ci -> Out_ci} (hev : ∀ x, pre x = true -> ∃ k, E_ci g_ch p_ch k x = some (fn x)) : C_ci pre fn := sound tysOk mixed (fn := Tryz.f193) rfl rfl rfl (.cons h_ch .nil) _ hev
end
/-! cj: idecsOk -/
abbrev M_cj : List Vm.Mode := [.imm L_DecDec]
abbrev R_cj : List (RK × Sh) := [(.imm, .bool)]
abbrev In_cj : Type := (insSh M_cj).den
abbrev Out_cj : Type := (outSh R_cj M_cj).den
abbrev C_cj (pre : In_cj -> Bool) (fn : In_cj -> Out_cj) : Prop := Sound Tryz.prog 154 ⟨M_cj, R_cj, pre, fn⟩
section
variable (g_ci : In_ci -> Out_ci) (p_ci : In_ci -> Bool)
abbrev X_cj : Ctx := ctx tys 6 (conOf [(193, ⟨M_ci, R_ci, p_ci, g_ci⟩)]) (keepOf []) (fun _ => [])
noncomputable abbrev E_cj (k : Nat) (x : In_cj) : Option Out_cj := evFn (X_cj g_ci p_ci) Tryz.f154 R_cj M_cj k x
variable {g_ci p_ci}
theorem ev_cj (k : Nat) (x0 : Dm (.imm L_DecDec)) : E_cj g_ci p_ci k (x0, ()) =
  (bif (p_ci (x0, ((), ()))) then (some ((bif (g_ci (x0, ((), ()))).1 then false else true), ())) else none) := by kernel_rfl
theorem S_cj (h_ci : C_ci p_ci g_ci) {pre : In_cj -> Bool} {fn : In_cj -> Out_cj} (hev : ∀ x, pre x = true -> ∃ k, E_cj g_ci p_ci k x = some (fn x)) : C_cj pre fn := sound tysOk mixed (fn := Tryz.f154) rfl rfl rfl (.cons h_ci .nil) _ hev
end
/-! ck: iTstNeed -/
abbrev M_ck : List Vm.Mode := [.imm I]
abbrev R_ck : List (RK × Sh) := [(.imm, I)]
abbrev In_ck : Type := (insSh M_ck).den
abbrev Out_ck : Type := (outSh R_ck M_ck).den
abbrev C_ck (pre : In_ck -> Bool) (fn : In_ck -> Out_ck) : Prop := Sound Tryz.prog 155 ⟨M_ck, R_ck, pre, fn⟩
abbrev X_ck : Ctx := ctx tys 8 (conOf []) (keepOf []) (fun _ => [])
noncomputable abbrev E_ck (k : Nat) (x : In_ck) : Option Out_ck := evFn X_ck Tryz.f155 R_ck M_ck k x
theorem ev_ck (k : Nat) (x0 : Dm (.imm I)) : E_ck k (x0, ()) =
  (bif (decide (x0 = (1 : Int))) then (some ((1 : Int), ())) else (bif (decide (x0 = (2 : Int))) then (some ((2 : Int), ())) else (some ((0 : Int), ())))) := by kernel_rfl
theorem S_ck  {pre : In_ck -> Bool} {fn : In_ck -> Out_ck} (hev : ∀ x, pre x = true -> ∃ k, E_ck k x = some (fn x)) : C_ck pre fn := sound tysOk mixed (fn := Tryz.f155) rfl rfl rfl ConsOk.nil _ hev
/-! cl: iSpcIn -/
abbrev M_cl : List Vm.Mode := [.imm S_SpcTest, .imm S_DecDec]
abbrev R_cl : List (RK × Sh) := [(.imm, .bool)]
abbrev In_cl : Type := (insSh M_cl).den
abbrev Out_cl : Type := (outSh R_cl M_cl).den
abbrev C_cl (pre : In_cl -> Bool) (fn : In_cl -> Out_cl) : Prop := Sound Tryz.prog 157 ⟨M_cl, R_cl, pre, fn⟩
section
variable (g_cf : In_cf -> Out_cf) (g_c9 : In_c9 -> Out_c9) (g_cb : In_cb -> Out_cb) (g_ce : In_ce -> Out_ce)
abbrev X_cl : Ctx := ctx tys 30 (conOf [(142, ⟨M_cf, R_cf, fun _ => true, g_cf⟩), (75, ⟨M_c9, R_c9, fun _ => true, g_c9⟩), (197, ⟨M_cb, R_cb, fun _ => true, g_cb⟩), (188, ⟨M_ce, R_ce, fun _ => true, g_ce⟩)]) (keepOf []) (fun _ => [])
noncomputable abbrev E_cl (k : Nat) (x : In_cl) : Option Out_cl := evFn (X_cl g_cf g_c9 g_cb g_ce) Tryz.f157 R_cl M_cl k x
variable {g_cf g_c9 g_cb g_ce}
theorem ev_cl (k : Nat) (x0 : Dm (.imm S_SpcTest)) (x1 : Dm (.imm S_DecDec)) : E_cl g_cf g_c9 g_cb g_ce k (x0, x1, ()) =
  (bif (bif (g_cf (x0, ())).1 then false else true) then (some (false, ())) else (bif (bif (g_c9 (x1, ())).1 then false else true) then (some (false, ())) else (bif (decide ((g_ce (x0.2.1, ((g_cb (x1, (x0.2.2.2, ()))).1, ()))).1 <= (0 : Int))) then (some ((decide ((g_ce ((g_cb (x1, (x0.2.2.2, ()))).1, (x0.2.2.1, ()))).1 <= (0 : Int))), ())) else (some (false, ()))))) := by kernel_rfl
theorem S_cl (h_cf : C_cf (fun _ => true) g_cf) (h_c9 : C_c9 (fun _ => true) g_c9) (h_cb : C_cb (fun _ => true) g_cb) (h_ce : C_ce (fun _ => true) g_ce) {pre : In_cl -> Bool} {fn : In_cl -> Out_cl} (hev : ∀ x, pre x = true -> ∃ k, E_cl g_cf g_c9 g_cb g_ce k x = some (fn x)) : C_cl pre fn := sound tysOk mixed (fn := Tryz.f157) rfl rfl rfl (.cons h_cf (.cons h_c9 (.cons h_cb (.cons h_ce .nil)))) _ hev
end
/-! cm: iDecMean -/
abbrev M_cm : List Vm.Mode := [.imm L_DecDec, .imm I]
abbrev R_cm : List (RK × Sh) := [(.imm, S_DecDec)]
abbrev In_cm : Type := (insSh M_cm).den
abbrev Out_cm : Type := (outSh R_cm M_cm).den
abbrev C_cm (pre : In_cm -> Bool) (fn : In_cm -> Out_cm) : Prop := Sound Tryz.prog 212 ⟨M_cm, R_cm, pre, fn⟩
section
variable (g_iin : In_iin -> Out_iin) (g_cj : In_cj -> Out_cj) (p_cj : In_cj -> Bool) (g_cb : In_cb -> Out_cb) (g_c8 : In_c8 -> Out_c8) (p_c8 : In_c8 -> Bool) (g_ca : In_ca -> Out_ca) (p_ca : In_ca -> Bool)
abbrev X_cm : Ctx := ctx tys 46 (conOf [(65, ⟨M_iin, R_iin, fun _ => true, g_iin⟩), (154, ⟨M_cj, R_cj, p_cj, g_cj⟩), (197, ⟨M_cb, R_cb, fun _ => true, g_cb⟩), (143, ⟨M_c8, R_c8, p_c8, g_c8⟩), (213, ⟨M_ca, R_ca, p_ca, g_ca⟩)]) (keepOf [(pt2, (⟨[(0, .asis), (1, .asis), (4, .asis), (5, .asis), (23, .asis), (24, .asis), (25, .asis)], [(4, .asis)], []⟩ : Keep))]) (fun _ => [])
noncomputable abbrev E_cm (k : Nat) (x : In_cm) : Option Out_cm := evFn (X_cm g_iin g_cj p_cj g_cb g_c8 p_c8 g_ca p_ca) Tryz.f212 R_cm M_cm k x
def h0_cm (x0 : Dm (.imm L_DecDec)) (x1 : Dm (.imm I)) (h0 : Dn I) (h1 : Dn I) (h2 : Dn I) (h3 : Dn S_DecDec) : St := mkS [(0, (AV.val L_DecDec x0)), (1, (AV.val I x1)), (4, (AV.ptr 4 none [])), (5, (AV.val I h0)), (23, (AV.val L_DecDec x0)), (24, (AV.val I h1)), (25, (AV.val I h2))] [(4, (Ob.box S_DecDec (AV.val S_DecDec h3)))]
noncomputable def r_cm (x : In_cm) (k : Nat) (p : List Bool) (s : St) : Option Out_cm := rounds (X_cm g_iin g_cj p_cj g_cb g_c8 p_c8 g_ca p_ca) Tryz.f212 R_cm M_cm x k p s
variable {g_iin g_cj p_cj g_cb g_c8 p_c8 g_ca p_ca}
theorem ev_cm (k : Nat) (x0 : Dm (.imm L_DecDec)) (x1 : Dm (.imm I)) : E_cm g_iin g_cj p_cj g_cb g_c8 p_c8 g_ca p_ca k (x0, x1, ()) =
  (bif (bif (g_iin ((List.length x0 : Int), ((1 : Int), ((100 : Int), ())))).1 then false else true) then (some (((0 : Int), (0 : Int)), ())) else (bif (p_cj (x0, ())) then (bif (bif (g_cj (x0, ())).1 then false else true) then (some (((0 : Int), (0 : Int)), ())) else (bif (bif (g_iin (x1, ((0 : Int), ((3 : Int), ())))).1 then false else true) then (some (((0 : Int), (0 : Int)), ())) else (r_cm g_iin g_cj p_cj g_cb g_c8 p_c8 g_ca p_ca (x0, x1, ()) k pt2 (h0_cm x0 x1 (0 : Int) (List.length x0 : Int) (0 : Int) ((0 : Int), (0 : Int)))))) else none)) := by kernel_rfl
theorem rd0_cm (k : Nat) (x0 : Dm (.imm L_DecDec)) (x1 : Dm (.imm I)) (h0 : Dn I) (h1 : Dn I) (h2 : Dn I) (h3 : Dn S_DecDec) : r_cm g_iin g_cj p_cj g_cb g_c8 p_c8 g_ca p_ca (x0, x1, ()) (k + 1) pt2 (h0_cm x0 x1 h0 h1 h2 h3) =
  (bif (decide (h2 < h1)) then (bif (bif (decide ((0 : Int) <= h2)) then (decide (h2 < (List.length x0 : Int))) else false) then (r_cm g_iin g_cj p_cj g_cb g_c8 p_c8 g_ca p_ca (x0, x1, ()) k pt2 (h0_cm x0 x1 (w64 (h0 + (g_cb ((rdL (e := S_DecDec) x0 h2), ((3 : Int), ()))).1.1)) h1 (w64 (h2 + (1 : Int))) h3)) else none) else (bif (p_c8 (x1, ())) then (bif (p_c8 ((3 : Int), ())) then (bif (p_ca ((w64 (h0 * (g_c8 (x1, ())).1)), ((w64 ((List.length x0 : Int) * (g_c8 ((3 : Int), ())).1)), ()))) then (some (((g_ca ((w64 (h0 * (g_c8 (x1, ())).1)), ((w64 ((List.length x0 : Int) * (g_c8 ((3 : Int), ())).1)), ()))).1, x1), ())) else none) else none) else none)) := by kernel_rfl
theorem S_cm (h_iin : C_iin (fun _ => true) g_iin) (h_cj : C_cj p_cj g_cj) (h_cb : C_cb (fun _ => true) g_cb) (h_c8 : C_c8 p_c8 g_c8) (h_ca : C_ca p_ca g_ca) {pre : In_cm -> Bool} {fn : In_cm -> Out_cm} (hev : ∀ x, pre x = true -> ∃ k, E_cm g_iin g_cj p_cj g_cb g_c8 p_c8 g_ca p_ca k x = some (fn x)) : C_cm pre fn := sound tysOk mixed (fn := Tryz.f212) rfl rfl rfl (.cons h_iin (.cons h_cj (.cons h_cb (.cons h_c8 (.cons h_ca .nil))))) _ hev
end
/-! cn: iTstTest_counts -/
abbrev M_cn : List Vm.Mode := [.imm S_TstTest]
abbrev R_cn : List (RK × Sh) := [(.imm, S_DecDec)]
abbrev In_cn : Type := (insSh M_cn).den
abbrev Out_cn : Type := (outSh R_cn M_cn).den
abbrev C_cn (pre : In_cn -> Bool) (fn : In_cn -> Out_cn) : Prop := Sound Tryz.prog 195 ⟨M_cn, R_cn, pre, fn⟩
section
variable (g_cb : In_cb -> Out_cb) (g_cm : In_cm -> Out_cm) (p_cm : In_cm -> Bool)
abbrev X_cn : Ctx := ctx tys 33 (conOf [(197, ⟨M_cb, R_cb, fun _ => true, g_cb⟩), (212, ⟨M_cm, R_cm, p_cm, g_cm⟩)]) (keepOf []) (fun _ => [])
noncomputable abbrev E_cn (k : Nat) (x : In_cn) : Option Out_cn := evFn (X_cn g_cb g_cm p_cm) Tryz.f195 R_cn M_cn k x
variable {g_cb g_cm p_cm}
theorem ev_cn (k : Nat) (x0 : Dm (.imm S_TstTest)) : E_cn g_cb g_cm p_cm k (x0, ()) =
  (bif (decide (x0.2.2.2.1 = (1 : Int))) then (bif (bif (decide ((0 : Int) <= (0 : Int))) then (decide ((0 : Int) < (List.length x0.2.2.2.2 : Int))) else false) then (some ((g_cb ((rdL (e := S_DecDec) x0.2.2.2.2 (0 : Int)), (x0.1.2.2.2, ()))).1, ())) else none) else (bif (decide (x0.2.2.2.1 = (2 : Int))) then (bif (fitL [x0.2.2.1] x0.2.2.2.2) then (bif (p_cm ((List.append [x0.2.2.1] x0.2.2.2.2), (x0.1.2.2.2, ()))) then (some ((g_cm ((List.append [x0.2.2.1] x0.2.2.2.2), (x0.1.2.2.2, ()))).1, ())) else none) else none) else (some ((g_cb (x0.2.2.1, (x0.1.2.2.2, ()))).1, ())))) := by kernel_rfl
theorem S_cn (h_cb : C_cb (fun _ => true) g_cb) (h_cm : C_cm p_cm g_cm) {pre : In_cn -> Bool} {fn : In_cn -> Out_cn} (hev : ∀ x, pre x = true -> ∃ k, E_cn g_cb g_cm p_cm k x = some (fn x)) : C_cn pre fn := sound tysOk mixed (fn := Tryz.f195) rfl rfl rfl (.cons h_cb (.cons h_cm .nil)) _ hev
end
/-! co: iTstTest_told_c1 -/
abbrev M_co : List Vm.Mode := [.imm S_DecDec, .pR S_TstTest]
abbrev R_co : List (RK × Sh) := [(.imm, .bool)]
abbrev In_co : Type := (insSh M_co).den
abbrev Out_co : Type := (outSh R_co M_co).den
abbrev C_co (pre : In_co -> Bool) (fn : In_co -> Out_co) : Prop := Sound Tryz.prog 196 ⟨M_co, R_co, pre, fn⟩
section
variable (g_cl : In_cl -> Out_cl)
abbrev X_co : Ctx := ctx tys 9 (conOf [(157, ⟨M_cl, R_cl, fun _ => true, g_cl⟩)]) (keepOf []) (fun _ => [])
noncomputable abbrev E_co (k : Nat) (x : In_co) : Option Out_co := evFn (X_co g_cl) Tryz.f196 R_co M_co k x
variable {g_cl}
theorem ev_co (k : Nat) (x0 : Dm (.imm S_DecDec)) (x1 : Dm (.pR S_TstTest)) : E_co g_cl k (x0, x1, ()) =
  (some ((bif (g_cl (x1.1, (x0, ()))).1 then false else true), ())) := by kernel_rfl
theorem S_co (h_cl : C_cl (fun _ => true) g_cl) {pre : In_co -> Bool} {fn : In_co -> Out_co} (hev : ∀ x, pre x = true -> ∃ k, E_co g_cl k x = some (fn x)) : C_co pre fn := sound tysOk mixed (fn := Tryz.f196) rfl rfl rfl (.cons h_cl .nil) _ hev
end
/-! cp: gIndexFunc_DecDec__iTstTest_told_c1 -/
abbrev M_cp : List Vm.Mode := [.imm L_DecDec, .clo 196 [S_TstTest]]
abbrev R_cp : List (RK × Sh) := [(.imm, I)]
abbrev In_cp : Type := (insSh M_cp).den
abbrev Out_cp : Type := (outSh R_cp M_cp).den
abbrev C_cp (pre : In_cp -> Bool) (fn : In_cp -> Out_cp) : Prop := Sound Tryz.prog 211 ⟨M_cp, R_cp, pre, fn⟩
section
variable (g_co : In_co -> Out_co)
abbrev X_cp : Ctx := ctx tys 19 (conOf [(196, ⟨M_co, R_co, fun _ => true, g_co⟩)]) (keepOf [(pt1, (⟨[(0, .asis), (1, .asis), (7, .asis), (8, .asis)], [(1000005000, .asis)], []⟩ : Keep))]) (fun _ => [])
noncomputable abbrev E_cp (k : Nat) (x : In_cp) : Option Out_cp := evFn (X_cp g_co) Tryz.f211 R_cp M_cp k x
def h0_cp (x0 : Dm (.imm L_DecDec)) (x1 : Dm (.clo 196 [S_TstTest])) (h0 : Dn I) (h1 : Dn I) : St := mkS [(0, (AV.val L_DecDec x0)), (1, (AV.fn 196 [1000005000])), (7, (AV.val I h0)), (8, (AV.val I h1))] [(1000005000, (Ob.cbox S_TstTest x1.1))]
noncomputable def r_cp (x : In_cp) (k : Nat) (p : List Bool) (s : St) : Option Out_cp := rounds (X_cp g_co) Tryz.f211 R_cp M_cp x k p s
variable {g_co}
theorem ev_cp (k : Nat) (x0 : Dm (.imm L_DecDec)) (x1 : Dm (.clo 196 [S_TstTest])) : E_cp g_co k (x0, x1, ()) =
  (r_cp g_co (x0, x1, ()) k pt1 (h0_cp x0 x1 (List.length x0 : Int) (0 : Int))) := by kernel_rfl
theorem rd0_cp (k : Nat) (x0 : Dm (.imm L_DecDec)) (x1 : Dm (.clo 196 [S_TstTest])) (h0 : Dn I) (h1 : Dn I) : r_cp g_co (x0, x1, ()) (k + 1) pt1 (h0_cp x0 x1 h0 h1) =
  (bif (decide (h1 < h0)) then (bif (bif (decide ((0 : Int) <= h1)) then (decide (h1 < (List.length x0 : Int))) else false) then (bif (g_co ((rdL (e := S_DecDec) x0 h1), (x1.1, ()))).1 then (some (h1, ())) else (r_cp g_co (x0, x1, ()) k pt1 (h0_cp x0 x1 h0 (w64 (h1 + (1 : Int)))))) else none) else (some ((-1 : Int), ()))) := by kernel_rfl
theorem S_cp (h_co : C_co (fun _ => true) g_co) {pre : In_cp -> Bool} {fn : In_cp -> Out_cp} (hev : ∀ x, pre x = true -> ∃ k, E_cp g_co k x = some (fn x)) : C_cp pre fn := sound tysOk mixed (fn := Tryz.f211) rfl rfl rfl (.cons h_co .nil) _ hev
end
/-! cq: gContainsFunc_DecDec__iTstTest_told_c1 -/
abbrev M_cq : List Vm.Mode := [.imm L_DecDec, .clo 196 [S_TstTest]]
abbrev R_cq : List (RK × Sh) := [(.imm, .bool)]
abbrev In_cq : Type := (insSh M_cq).den
abbrev Out_cq : Type := (outSh R_cq M_cq).den
abbrev C_cq (pre : In_cq -> Bool) (fn : In_cq -> Out_cq) : Prop := Sound Tryz.prog 193 ⟨M_cq, R_cq, pre, fn⟩
section
variable (g_cp : In_cp -> Out_cp) (p_cp : In_cp -> Bool)
abbrev X_cq : Ctx := ctx tys 9 (conOf [(211, ⟨M_cp, R_cp, p_cp, g_cp⟩)]) (keepOf []) (fun _ => [])
noncomputable abbrev E_cq (k : Nat) (x : In_cq) : Option Out_cq := evFn (X_cq g_cp p_cp) Tryz.f193 R_cq M_cq k x
variable {g_cp p_cp}
theorem ev_cq (k : Nat) (x0 : Dm (.imm L_DecDec)) (x1 : Dm (.clo 196 [S_TstTest])) : E_cq g_cp p_cp k (x0, x1, ()) =
  (bif (p_cp (x0, ((x1.1, ()), ()))) then (some ((decide ((0 : Int) <= (g_cp (x0, ((x1.1, ()), ()))).1)), ())) else none) := by kernel_rfl
theorem S_cq (h_cp : C_cp p_cp g_cp) {pre : In_cq -> Bool} {fn : In_cq -> Out_cq} (hev : ∀ x, pre x = true -> ∃ k, E_cq g_cp p_cp k x = some (fn x)) : C_cq pre fn := sound tysOk mixed (fn := Tryz.f193) rfl rfl rfl (.cons h_cp .nil) _ hev
end
/-! cr: iTstTest_told -/
abbrev M_cr : List Vm.Mode := [.imm S_TstTest]
abbrev R_cr : List (RK × Sh) := [(.imm, I)]
abbrev In_cr : Type := (insSh M_cr).den
abbrev Out_cr : Type := (outSh R_cr M_cr).den
abbrev C_cr (pre : In_cr -> Bool) (fn : In_cr -> Out_cr) : Prop := Sound Tryz.prog 156 ⟨M_cr, R_cr, pre, fn⟩
section
variable (g_cl : In_cl -> Out_cl) (g_ck : In_ck -> Out_ck) (g_cn : In_cn -> Out_cn) (p_cn : In_cn -> Bool) (g_cq : In_cq -> Out_cq) (p_cq : In_cq -> Bool)
abbrev X_cr : Ctx := ctx tys 45 (conOf [(157, ⟨M_cl, R_cl, fun _ => true, g_cl⟩), (155, ⟨M_ck, R_ck, fun _ => true, g_ck⟩), (195, ⟨M_cn, R_cn, p_cn, g_cn⟩), (193, ⟨M_cq, R_cq, p_cq, g_cq⟩)]) (keepOf []) (fun _ => [])
noncomputable abbrev E_cr (k : Nat) (x : In_cr) : Option Out_cr := evFn (X_cr g_cl g_ck g_cn p_cn g_cq p_cq) Tryz.f156 R_cr M_cr k x
variable {g_cl g_ck g_cn p_cn g_cq p_cq}
theorem ev_cr (k : Nat) (x0 : Dm (.imm S_TstTest)) : E_cr g_cl g_ck g_cn p_cn g_cq p_cq k (x0, ()) =
  (bif (decide (x0.2.2.2.1 = (0 : Int))) then (bif (bif (g_cl (x0.1, (x0.2.2.1, ()))).1 then false else true) then (some ((1 : Int), ())) else (bif (decide (x0.2.2.2.1 = (0 : Int))) then (some ((3 : Int), ())) else (bif (decide ((List.length x0.2.2.2.2 : Int) < (g_ck (x0.2.2.2.1, ())).1)) then (some ((2 : Int), ())) else (bif (bif (decide (x0.2.2.2.1 = (3 : Int))) then false else true) then (bif (p_cn (x0, ())) then (bif (g_cl (x0.1, ((g_cn (x0, ())).1, ()))).1 then (bif (p_cq (x0.2.2.2.2, ((x0, ()), ()))) then (bif (bif (g_cq (x0.2.2.2.2, ((x0, ()), ()))).1 then false else true) then (some ((3 : Int), ())) else (some ((4 : Int), ()))) else none) else (some ((4 : Int), ()))) else none) else (some ((4 : Int), ())))))) else (bif (decide (x0.2.2.2.1 = (0 : Int))) then (some ((3 : Int), ())) else (bif (decide ((List.length x0.2.2.2.2 : Int) < (g_ck (x0.2.2.2.1, ())).1)) then (some ((2 : Int), ())) else (bif (bif (decide (x0.2.2.2.1 = (3 : Int))) then false else true) then (bif (p_cn (x0, ())) then (bif (g_cl (x0.1, ((g_cn (x0, ())).1, ()))).1 then (bif (p_cq (x0.2.2.2.2, ((x0, ()), ()))) then (bif (bif (g_cq (x0.2.2.2.2, ((x0, ()), ()))).1 then false else true) then (some ((3 : Int), ())) else (some ((4 : Int), ()))) else none) else (some ((4 : Int), ()))) else none) else (some ((4 : Int), ())))))) := by kernel_rfl
theorem S_cr (h_cl : C_cl (fun _ => true) g_cl) (h_ck : C_ck (fun _ => true) g_ck) (h_cn : C_cn p_cn g_cn) (h_cq : C_cq p_cq g_cq) {pre : In_cr -> Bool} {fn : In_cr -> Out_cr} (hev : ∀ x, pre x = true -> ∃ k, E_cr g_cl g_ck g_cn p_cn g_cq p_cq k x = some (fn x)) : C_cr pre fn := sound tysOk mixed (fn := Tryz.f156) rfl rfl rfl (.cons h_cl (.cons h_ck (.cons h_cn (.cons h_cq .nil)))) _ hev
end
/-! cs: iTstOk -/
abbrev M_cs : List Vm.Mode := [.imm S_TstTest]
abbrev R_cs : List (RK × Sh) := [(.imm, .bool)]
abbrev In_cs : Type := (insSh M_cs).den
abbrev Out_cs : Type := (outSh R_cs M_cs).den
abbrev C_cs (pre : In_cs -> Bool) (fn : In_cs -> Out_cs) : Prop := Sound Tryz.prog 88 ⟨M_cs, R_cs, pre, fn⟩
section
variable (g_cf : In_cf -> Out_cf) (g_c9 : In_c9 -> Out_c9) (g_cj : In_cj -> Out_cj) (p_cj : In_cj -> Bool) (g_iin : In_iin -> Out_iin) (g_ck : In_ck -> Out_ck) (g_cr : In_cr -> Out_cr) (p_cr : In_cr -> Bool) (g_cl : In_cl -> Out_cl)
abbrev X_cs : Ctx := ctx tys 64 (conOf [(142, ⟨M_cf, R_cf, fun _ => true, g_cf⟩), (75, ⟨M_c9, R_c9, fun _ => true, g_c9⟩), (154, ⟨M_cj, R_cj, p_cj, g_cj⟩), (65, ⟨M_iin, R_iin, fun _ => true, g_iin⟩), (155, ⟨M_ck, R_ck, fun _ => true, g_ck⟩), (156, ⟨M_cr, R_cr, p_cr, g_cr⟩), (157, ⟨M_cl, R_cl, fun _ => true, g_cl⟩)]) (keepOf []) (fun _ => [])
noncomputable abbrev E_cs (k : Nat) (x : In_cs) : Option Out_cs := evFn (X_cs g_cf g_c9 g_cj p_cj g_iin g_ck g_cr p_cr g_cl) Tryz.f88 R_cs M_cs k x
variable {g_cf g_c9 g_cj p_cj g_iin g_ck g_cr p_cr g_cl}
theorem ev_cs (k : Nat) (x0 : Dm (.imm S_TstTest)) : E_cs g_cf g_c9 g_cj p_cj g_iin g_ck g_cr p_cr g_cl k (x0, ()) =
  (bif (bif (g_cf (x0.1, ())).1 then false else true) then (some (false, ())) else (bif (bif (g_c9 (x0.2.2.1, ())).1 then false else true) then (some (false, ())) else (bif (p_cj (x0.2.2.2.2, ())) then (bif (bif (g_cj (x0.2.2.2.2, ())).1 then false else true) then (some (false, ())) else (bif (bif (g_iin (x0.2.2.2.1, ((0 : Int), ((3 : Int), ())))).1 then false else true) then (some (false, ())) else (bif (decide ((g_ck (x0.2.2.2.1, ())).1 < (List.length x0.2.2.2.2 : Int))) then (some (false, ())) else (bif (decide (x0.2.1 = (0 : Int))) then (bif (Sh.beq S_DecDec x0.2.2.1 ((0 : Int), (0 : Int))) then (some ((decide (x0.2.2.2.1 = (0 : Int))), ())) else (some (false, ()))) else (bif (p_cr (x0, ())) then (bif (decide (x0.2.1 = (g_cr (x0, ())).1)) then (bif (decide (x0.2.2.2.1 = (0 : Int))) then (some (true, ())) else (some ((bif (g_cl (x0.1, (x0.2.2.1, ()))).1 then false else true), ()))) else (some (false, ()))) else none))))) else none))) := by kernel_rfl
theorem S_cs (h_cf : C_cf (fun _ => true) g_cf) (h_c9 : C_c9 (fun _ => true) g_c9) (h_cj : C_cj p_cj g_cj) (h_iin : C_iin (fun _ => true) g_iin) (h_ck : C_ck (fun _ => true) g_ck) (h_cr : C_cr p_cr g_cr) (h_cl : C_cl (fun _ => true) g_cl) {pre : In_cs -> Bool} {fn : In_cs -> Out_cs} (hev : ∀ x, pre x = true -> ∃ k, E_cs g_cf g_c9 g_cj p_cj g_iin g_ck g_cr p_cr g_cl k x = some (fn x)) : C_cs pre fn := sound tysOk mixed (fn := Tryz.f88) rfl rfl rfl (.cons h_cf (.cons h_c9 (.cons h_cj (.cons h_iin (.cons h_ck (.cons h_cr (.cons h_cl .nil))))))) _ hev
end
/-! ct: iisUser -/
abbrev M_ct : List Vm.Mode := [.imm I]
abbrev R_ct : List (RK × Sh) := [(.imm, .bool)]
abbrev In_ct : Type := (insSh M_ct).den
abbrev Out_ct : Type := (outSh R_ct M_ct).den
abbrev C_ct (pre : In_ct -> Bool) (fn : In_ct -> Out_ct) : Prop := Sound Tryz.prog 77 ⟨M_ct, R_ct, pre, fn⟩
section
variable (g_iin : In_iin -> Out_iin)
abbrev X_ct : Ctx := ctx tys 5 (conOf [(65, ⟨M_iin, R_iin, fun _ => true, g_iin⟩)]) (keepOf []) (fun _ => [])
noncomputable abbrev E_ct (k : Nat) (x : In_ct) : Option Out_ct := evFn (X_ct g_iin) Tryz.f77 R_ct M_ct k x
variable {g_iin}
theorem ev_ct (k : Nat) (x0 : Dm (.imm I)) : E_ct g_iin k (x0, ()) =
  (some ((g_iin (x0, ((1 : Int), ((5 : Int), ())))).1, ())) := by kernel_rfl
theorem S_ct (h_iin : C_iin (fun _ => true) g_iin) {pre : In_ct -> Bool} {fn : In_ct -> Out_ct} (hev : ∀ x, pre x = true -> ∃ k, E_ct g_iin k x = some (fn x)) : C_ct pre fn := sound tysOk mixed (fn := Tryz.f77) rfl rfl rfl (.cons h_iin .nil) _ hev
end
/-! cu: isigns -/
abbrev M_cu : List Vm.Mode := [.imm I]
abbrev R_cu : List (RK × Sh) := [(.imm, .bool)]
abbrev In_cu : Type := (insSh M_cu).den
abbrev Out_cu : Type := (outSh R_cu M_cu).den
abbrev C_cu (pre : In_cu -> Bool) (fn : In_cu -> Out_cu) : Prop := Sound Tryz.prog 85 ⟨M_cu, R_cu, pre, fn⟩
abbrev X_cu : Ctx := ctx tys 9 (conOf []) (keepOf []) (fun _ => [])
noncomputable abbrev E_cu (k : Nat) (x : In_cu) : Option Out_cu := evFn X_cu Tryz.f85 R_cu M_cu k x
theorem ev_cu (k : Nat) (x0 : Dm (.imm I)) : E_cu k (x0, ()) =
  (bif (decide (x0 = (2 : Int))) then (some (true, ())) else (some ((decide (x0 = (3 : Int))), ()))) := by kernel_rfl
theorem S_cu  {pre : In_cu -> Bool} {fn : In_cu -> Out_cu} (hev : ∀ x, pre x = true -> ∃ k, E_cu k x = some (fn x)) : C_cu pre fn := sound tysOk mixed (fn := Tryz.f85) rfl rfl rfl ConsOk.nil _ hev
/-! cv: iBatSig_ok -/
abbrev M_cv : List Vm.Mode := [.imm S_BatSig]
abbrev R_cv : List (RK × Sh) := [(.imm, .bool)]
abbrev In_cv : Type := (insSh M_cv).den
abbrev Out_cv : Type := (outSh R_cv M_cv).den
abbrev C_cv (pre : In_cv -> Bool) (fn : In_cv -> Out_cv) : Prop := Sound Tryz.prog 90 ⟨M_cv, R_cv, pre, fn⟩
section
variable (g_ct : In_ct -> Out_ct) (g_cu : In_cu -> Out_cu) (g_iin : In_iin -> Out_iin)
abbrev X_cv : Ctx := ctx tys 16 (conOf [(77, ⟨M_ct, R_ct, fun _ => true, g_ct⟩), (85, ⟨M_cu, R_cu, fun _ => true, g_cu⟩), (65, ⟨M_iin, R_iin, fun _ => true, g_iin⟩)]) (keepOf []) (fun _ => [])
noncomputable abbrev E_cv (k : Nat) (x : In_cv) : Option Out_cv := evFn (X_cv g_ct g_cu g_iin) Tryz.f90 R_cv M_cv k x
variable {g_ct g_cu g_iin}
theorem ev_cv (k : Nat) (x0 : Dm (.imm S_BatSig)) : E_cv g_ct g_cu g_iin k (x0, ()) =
  (bif (g_ct (x0.1, ())).1 then (bif (g_cu (x0.2.1, ())).1 then (some ((g_iin (x0.2.2, ((0 : Int), ((999982 : Int), ())))).1, ())) else (some (false, ()))) else (some (false, ()))) := by kernel_rfl
theorem S_cv (h_ct : C_ct (fun _ => true) g_ct) (h_cu : C_cu (fun _ => true) g_cu) (h_iin : C_iin (fun _ => true) g_iin) {pre : In_cv -> Bool} {fn : In_cv -> Out_cv} (hev : ∀ x, pre x = true -> ∃ k, E_cv g_ct g_cu g_iin k x = some (fn x)) : C_cv pre fn := sound tysOk mixed (fn := Tryz.f90) rfl rfl rfl (.cons h_ct (.cons h_cu (.cons h_iin .nil))) _ hev
end
/-! cw: iBatOk_c1 -/
abbrev M_cw : List Vm.Mode := [.imm S_BatSig]
abbrev R_cw : List (RK × Sh) := [(.imm, .bool)]
abbrev In_cw : Type := (insSh M_cw).den
abbrev Out_cw : Type := (outSh R_cw M_cw).den
abbrev C_cw (pre : In_cw -> Bool) (fn : In_cw -> Out_cw) : Prop := Sound Tryz.prog 89 ⟨M_cw, R_cw, pre, fn⟩
section
variable (g_cv : In_cv -> Out_cv)
abbrev X_cw : Ctx := ctx tys 6 (conOf [(90, ⟨M_cv, R_cv, fun _ => true, g_cv⟩)]) (keepOf []) (fun _ => [])
noncomputable abbrev E_cw (k : Nat) (x : In_cw) : Option Out_cw := evFn (X_cw g_cv) Tryz.f89 R_cw M_cw k x
variable {g_cv}
theorem ev_cw (k : Nat) (x0 : Dm (.imm S_BatSig)) : E_cw g_cv k (x0, ()) =
  (some ((bif (g_cv (x0, ())).1 then false else true), ())) := by kernel_rfl
theorem S_cw (h_cv : C_cv (fun _ => true) g_cv) {pre : In_cw -> Bool} {fn : In_cw -> Out_cw} (hev : ∀ x, pre x = true -> ∃ k, E_cw g_cv k x = some (fn x)) : C_cw pre fn := sound tysOk mixed (fn := Tryz.f89) rfl rfl rfl (.cons h_cv .nil) _ hev
end
/-! cx: gIndexFunc_BatSig__iBatOk_c1 -/
abbrev M_cx : List Vm.Mode := [.imm L_BatSig, .clo 89 []]
abbrev R_cx : List (RK × Sh) := [(.imm, I)]
abbrev In_cx : Type := (insSh M_cx).den
abbrev Out_cx : Type := (outSh R_cx M_cx).den
abbrev C_cx (pre : In_cx -> Bool) (fn : In_cx -> Out_cx) : Prop := Sound Tryz.prog 158 ⟨M_cx, R_cx, pre, fn⟩
section
variable (g_cw : In_cw -> Out_cw) (p_cw : In_cw -> Bool)
abbrev X_cx : Ctx := ctx tys 19 (conOf [(89, ⟨M_cw, R_cw, p_cw, g_cw⟩)]) (keepOf [(pt1, (⟨[(0, .asis), (1, .asis), (7, .asis), (8, .asis)], [], []⟩ : Keep))]) (fun _ => [])
noncomputable abbrev E_cx (k : Nat) (x : In_cx) : Option Out_cx := evFn (X_cx g_cw p_cw) Tryz.f158 R_cx M_cx k x
def h0_cx (x0 : Dm (.imm L_BatSig)) (x1 : Dm (.clo 89 [])) (h0 : Dn I) (h1 : Dn I) : St := mkS [(0, (AV.val L_BatSig x0)), (1, (AV.fn 89 [])), (7, (AV.val I h0)), (8, (AV.val I h1))] []
noncomputable def r_cx (x : In_cx) (k : Nat) (p : List Bool) (s : St) : Option Out_cx := rounds (X_cx g_cw p_cw) Tryz.f158 R_cx M_cx x k p s
variable {g_cw p_cw}
theorem ev_cx (k : Nat) (x0 : Dm (.imm L_BatSig)) (x1 : Dm (.clo 89 [])) : E_cx g_cw p_cw k (x0, x1, ()) =
  (r_cx g_cw p_cw (x0, x1, ()) k pt1 (h0_cx x0 x1 (List.length x0 : Int) (0 : Int))) := by kernel_rfl
theorem rd0_cx (k : Nat) (x0 : Dm (.imm L_BatSig)) (x1 : Dm (.clo 89 [])) (h0 : Dn I) (h1 : Dn I) : r_cx g_cw p_cw (x0, x1, ()) (k + 1) pt1 (h0_cx x0 x1 h0 h1) =
  (bif (decide (h1 < h0)) then (bif (bif (decide ((0 : Int) <= h1)) then (decide (h1 < (List.length x0 : Int))) else false) then (cl (p_cw ((rdL (e := S_BatSig) x0 h1), ())) (g_cw ((rdL (e := S_BatSig) x0 h1), ())) fun y0 => (bif y0.1 then (some (h1, ())) else (r_cx g_cw p_cw (x0, x1, ()) k pt1 (h0_cx x0 x1 h0 (w64 (h1 + (1 : Int))))))) else none) else (some ((-1 : Int), ()))) := by kernel_rfl
theorem S_cx (h_cw : C_cw p_cw g_cw) {pre : In_cx -> Bool} {fn : In_cx -> Out_cx} (hev : ∀ x, pre x = true -> ∃ k, E_cx g_cw p_cw k x = some (fn x)) : C_cx pre fn := sound tysOk mixed (fn := Tryz.f158) rfl rfl rfl (.cons h_cw .nil) _ hev
end
end Go.Proofs.YtddpemilmeijfaaGreat
