/- The functions of the seat, evaluated: equations, checked by the kernel. Made by a program. -/
import Derived.Test.YtijolcgmciclhaaFnExactCerOfVmC
import Derived.Test.YtijolcgmciclhaaProg
import Derived.KernelRfl
set_option linter.unusedVariables false
set_option maxRecDepth 100000
namespace Go.Proofs.Ytijolcgmciclhaa
open Go.Vm
abbrev Dm (m : Vm.Mode) : Type := m.inSh.den
abbrev Dn (S : Sh) : Type := S.den
def mkS (a : List (Nat × AV)) (b : List (Nat × Ob)) : St := .mk (updL (fun _ => .unk) a) (updL (fun _ => .none) b)
def pt0 : List Bool := [false, true, false, true, true]
def pt1 : List Bool := [false, true, false, true]
def pt2 : List Bool := [false, true, false, true, true, true]
def pt3 : List Bool := [false, true, false, true, true, true, true, true]
def pt4 : List Bool := [false, true, false, false, true, false, false, true, false, true, true, true, true]
def pt5 : List Bool := [false, true, false, false, true, false, false, true, false, true]
def pt6 : List Bool := [false, true, true, true, false, false, true, false, false, true, false, true, true]
def pt7 : List Bool := [false, true, false, true, true, true, true]
def pt8 : List Bool := [false, true, true, true, false, false, true, true, false, false, true, false, true, true]
abbrev I : Sh := (.int .i64)
abbrev U8 : Sh := (.int .u8)
abbrev L_str : Sh := (.sl 9 .str)
abbrev L_bool : Sh := (.sl 4 .bool)
abbrev L_u8 : Sh := (.sl 5 U8)
abbrev L_int : Sh := (.sl 3 I)
abbrev S_runtime_errorAddressString : Sh := (.pair .str (.int .u64))
abbrev L_Lint : Sh := (.sl 70 L_int)
abbrev S_DecDec : Sh := (.pair I I)
abbrev S_sl20Rd : Sh := (.pair L_u8 I)
abbrev L_DecDec : Sh := (.sl 24 S_DecDec)
abbrev L_lDecDec : Sh := (.sl 120 S_DecDec)
abbrev S_DayDay : Sh := (.pair I S_DecDec)
abbrev L_BatSig : Sh := (.sl 133 S_DayDay)
abbrev L_lBatSig : Sh := (.sl 169 S_DayDay)
abbrev S_runtime_boundsError : Sh := (.pair I (.pair I (.pair .bool U8)))
abbrev S_SpcTest : Sh := (.pair I (.pair S_DecDec (.pair S_DecDec I)))
abbrev L_SpcTest : Sh := (.sl 26 S_SpcTest)
abbrev L_lSpcTest : Sh := (.sl 122 S_SpcTest)
abbrev S_SpcSpec : Sh := (.pair L_SpcTest I)
abbrev L_SpcSpec : Sh := (.sl 202 S_SpcSpec)
abbrev S_CerCer : Sh := (.pair I (.pair L_SpcTest (.pair L_DecDec S_DecDec)))
abbrev S_TstTest : Sh := (.pair S_SpcTest (.pair I (.pair S_DecDec (.pair I L_DecDec))))
abbrev S_lTstTest : Sh := (.pair S_SpcTest (.pair I (.pair S_DecDec (.pair I L_lDecDec))))
abbrev L_TstTest : Sh := (.sl 29 S_TstTest)
abbrev L_lTstTest : Sh := (.sl 166 S_lTstTest)
abbrev S_ReqReq : Sh := (.pair I (.pair I (.pair I (.pair I (.pair I (.pair S_DecDec L_SpcTest))))))
abbrev S_AudLine : Sh := (.pair S_ReqReq I)
abbrev L_AudLine : Sh := (.sl 178 S_AudLine)
abbrev S_SesSes : Sh := (.pair .bool (.pair S_ReqReq S_DecDec))
abbrev L_SesSes : Sh := (.sl 181 S_SesSes)
abbrev S_BatBatch : Sh := (.pair I (.pair I (.pair L_TstTest (.pair I (.pair L_BatSig L_bool)))))
abbrev S_lBatBatch : Sh := (.pair I (.pair I (.pair L_lTstTest (.pair I (.pair L_lBatSig L_bool)))))
abbrev L_BatBatch : Sh := (.sl 53 S_BatBatch)
abbrev S_HouHouse : Sh := (.pair L_int (.pair L_SpcSpec L_BatBatch))
abbrev S_StoStore : Sh := (.pair S_HouHouse (.pair L_int (.pair L_AudLine L_SesSes)))
abbrev S_lDecDec : Sh := S_DecDec
abbrev S_BatSig : Sh := S_DayDay
abbrev S_lBatSig : Sh := S_DayDay
abbrev S_lSpcTest : Sh := S_SpcTest
def tys : List (Nat × Sh × Nat) := [(2, I, 0), (3, I, 0), (4, .bool, 0), (5, U8, 0), (6, U8, 0), (7, S_runtime_boundsError, 4), (8, S_runtime_boundsError, 4), (9, .str, 0), (10, .str, 0), (11, .str, 0), (12, (.int .u64), 0), (13, S_runtime_errorAddressString, 2), (14, S_runtime_errorAddressString, 2), (21, (.int .i32), 0), (22, L_u8, 0), (23, S_DecDec, 2), (24, S_DecDec, 2), (25, S_SpcTest, 4), (26, S_SpcTest, 4), (27, L_DecDec, 0), (28, S_TstTest, 5), (29, S_TstTest, 5), (47, L_lSpcTest, 0), (49, L_TstTest, 0), (50, L_BatSig, 0), (51, L_bool, 0), (52, S_BatBatch, 6), (53, S_BatBatch, 6), (55, L_SpcTest, 0), (62, L_lTstTest, 0), (63, L_lBatSig, 0), (64, S_lBatBatch, 6), (65, S_lBatBatch, 6), (70, L_int, 0), (71, L_SpcSpec, 0), (72, L_BatBatch, 0), (73, S_HouHouse, 3), (74, S_HouHouse, 3), (75, L_AudLine, 0), (76, L_SesSes, 0), (77, S_StoStore, 4), (78, S_StoStore, 4), (86, S_ReqReq, 7), (87, S_ReqReq, 7), (90, S_CerCer, 5), (91, S_CerCer, 5), (111, S_DayDay, 3), (112, S_DayDay, 3), (120, S_DecDec, 2), (121, S_SpcTest, 4), (122, S_SpcTest, 4), (132, S_DayDay, 3), (133, S_DayDay, 3), (153, S_sl20Rd, 2), (154, S_sl20Rd, 2), (164, L_lDecDec, 0), (165, S_lTstTest, 5), (166, S_lTstTest, 5), (169, S_DayDay, 3), (177, S_AudLine, 2), (178, S_AudLine, 2), (180, S_SesSes, 4), (181, S_SesSes, 4), (201, S_SpcSpec, 2), (202, S_SpcSpec, 2), (204, L_Lint, 0), (227, L_str, 0), (237, (.int .u32), 0), (238, U8, 0), (239, U8, 0), (242, (.int .i32), 0), (243, (.int .i32), 0)]
theorem tysOk : tyChk Try.prog (ctx tys 0 (fun _ => []) (fun _ => ⟨[], [], []⟩) fun _ => []) tys = true := by kernel_rfl
theorem mixed : Try.prog.follows .mixedOrders = true := by kernel_rfl
/-! a0: lszDecDecS -/
abbrev M_a0 : List Vm.Mode := [.imm L_lDecDec, .imm I]
abbrev R_a0 : List (RK × Sh) := [(.imm, I)]
abbrev In_a0 : Type := (insSh M_a0).den
abbrev Out_a0 : Type := (outSh R_a0 M_a0).den
abbrev C_a0 (pre : In_a0 -> Bool) (fn : In_a0 -> Out_a0) : Prop := Sound Try.prog 193 ⟨M_a0, R_a0, pre, fn⟩
abbrev X_a0 : Ctx := ctx tys 12 (conOf []) (keepOf []) (fun _ => [])
noncomputable abbrev E_a0 (k : Nat) (x : In_a0) : Option Out_a0 := evFn X_a0 Try.f193 R_a0 M_a0 k x
theorem ev_a0 (k : Nat) (x0 : Dm (.imm L_lDecDec)) (x1 : Dm (.imm I)) : E_a0 k (x0, x1, ()) =
  (bif (decide ((w64 (x1 - (List.length x0 : Int))) < (0 : Int))) then (some ((-1 : Int), ())) else (some ((w64 (x1 - (List.length x0 : Int))), ()))) := by kernel_rfl
theorem S_a0  {pre : In_a0 -> Bool} {fn : In_a0 -> Out_a0} (hev : ∀ x, pre x = true -> ∃ k, E_a0 k x = some (fn x)) : C_a0 pre fn := sound tysOk mixed (fn := Try.f193) rfl rfl rfl ConsOk.nil _ hev
/-! a1: lszTstTest -/
abbrev M_a1 : List Vm.Mode := [.imm S_lTstTest, .imm I]
abbrev R_a1 : List (RK × Sh) := [(.imm, I)]
abbrev In_a1 : Type := (insSh M_a1).den
abbrev Out_a1 : Type := (outSh R_a1 M_a1).den
abbrev C_a1 (pre : In_a1 -> Bool) (fn : In_a1 -> Out_a1) : Prop := Sound Try.prog 157 ⟨M_a1, R_a1, pre, fn⟩
section
variable (g_a0 : In_a0 -> Out_a0) (p_a0 : In_a0 -> Bool)
abbrev X_a1 : Ctx := ctx tys 12 (conOf [(193, ⟨M_a0, R_a0, p_a0, g_a0⟩)]) (keepOf []) (fun _ => [])
noncomputable abbrev E_a1 (k : Nat) (x : In_a1) : Option Out_a1 := evFn (X_a1 g_a0 p_a0) Try.f157 R_a1 M_a1 k x
variable {g_a0 p_a0}
theorem ev_a1 (k : Nat) (x0 : Dm (.imm S_lTstTest)) (x1 : Dm (.imm I)) : E_a1 g_a0 p_a0 k (x0, x1, ()) =
  (bif (p_a0 (x0.2.2.2.2, (x1, ()))) then (bif (decide ((g_a0 (x0.2.2.2.2, (x1, ()))).1 < (0 : Int))) then (some ((-1 : Int), ())) else (some ((g_a0 (x0.2.2.2.2, (x1, ()))).1, ()))) else none) := by kernel_rfl
theorem S_a1 (h_a0 : C_a0 p_a0 g_a0) {pre : In_a1 -> Bool} {fn : In_a1 -> Out_a1} (hev : ∀ x, pre x = true -> ∃ k, E_a1 g_a0 p_a0 k x = some (fn x)) : C_a1 pre fn := sound tysOk mixed (fn := Try.f157) rfl rfl rfl (.cons h_a0 .nil) _ hev
end
/-! a2: lszTstTestS -/
abbrev M_a2 : List Vm.Mode := [.imm L_lTstTest, .imm I]
abbrev R_a2 : List (RK × Sh) := [(.imm, I)]
abbrev In_a2 : Type := (insSh M_a2).den
abbrev Out_a2 : Type := (outSh R_a2 M_a2).den
abbrev C_a2 (pre : In_a2 -> Bool) (fn : In_a2 -> Out_a2) : Prop := Sound Try.prog 104 ⟨M_a2, R_a2, pre, fn⟩
section
variable (g_a1 : In_a1 -> Out_a1) (p_a1 : In_a1 -> Bool)
abbrev X_a2 : Ctx := ctx tys 27 (conOf [(157, ⟨M_a1, R_a1, p_a1, g_a1⟩)]) (keepOf [(pt2, (⟨[(0, .asis), (1, .asis), (5, .asis)], [], []⟩ : Keep))]) (fun _ => [])
noncomputable abbrev E_a2 (k : Nat) (x : In_a2) : Option Out_a2 := evFn (X_a2 g_a1 p_a1) Try.f104 R_a2 M_a2 k x
def h0_a2 (x0 : Dm (.imm L_lTstTest)) (x1 : Dm (.imm I)) (h0 : Dn I) (h1 : Dn I) : St := mkS [(0, (AV.val L_lTstTest x0)), (1, (AV.val I h0)), (5, (AV.val I h1))] []
noncomputable def r_a2 (x : In_a2) (k : Nat) (p : List Bool) (s : St) : Option Out_a2 := rounds (X_a2 g_a1 p_a1) Try.f104 R_a2 M_a2 x k p s
variable {g_a1 p_a1}
theorem ev_a2 (k : Nat) (x0 : Dm (.imm L_lTstTest)) (x1 : Dm (.imm I)) : E_a2 g_a1 p_a1 k (x0, x1, ()) =
  (bif (decide ((w64 (x1 - (List.length x0 : Int))) < (0 : Int))) then (some ((-1 : Int), ())) else (r_a2 g_a1 p_a1 (x0, x1, ()) k pt2 (h0_a2 x0 x1 (w64 (x1 - (List.length x0 : Int))) (0 : Int)))) := by kernel_rfl
theorem rd0_a2 (k : Nat) (x0 : Dm (.imm L_lTstTest)) (x1 : Dm (.imm I)) (h0 : Dn I) (h1 : Dn I) : r_a2 g_a1 p_a1 (x0, x1, ()) (k + 1) pt2 (h0_a2 x0 x1 h0 h1) =
  (bif (decide (h1 < (List.length x0 : Int))) then (bif (bif (decide ((0 : Int) <= h1)) then (decide (h1 < (List.length x0 : Int))) else false) then (cl (p_a1 ((rdL (e := S_lTstTest) x0 h1), (h0, ()))) (g_a1 ((rdL (e := S_lTstTest) x0 h1), (h0, ()))) fun y0 => (bif (decide (y0.1 < (0 : Int))) then (some ((-1 : Int), ())) else (r_a2 g_a1 p_a1 (x0, x1, ()) k pt2 (h0_a2 x0 x1 (y0.1) (w64 (h1 + (1 : Int))))))) else none) else (some (h0, ()))) := by kernel_rfl
theorem S_a2 (h_a1 : C_a1 p_a1 g_a1) {pre : In_a2 -> Bool} {fn : In_a2 -> Out_a2} (hev : ∀ x, pre x = true -> ∃ k, E_a2 g_a1 p_a1 k x = some (fn x)) : C_a2 pre fn := sound tysOk mixed (fn := Try.f104) rfl rfl rfl (.cons h_a1 .nil) _ hev
end
/-! a3: lszBatSigS -/
abbrev M_a3 : List Vm.Mode := [.imm L_lBatSig, .imm I]
abbrev R_a3 : List (RK × Sh) := [(.imm, I)]
abbrev In_a3 : Type := (insSh M_a3).den
abbrev Out_a3 : Type := (outSh R_a3 M_a3).den
abbrev C_a3 (pre : In_a3 -> Bool) (fn : In_a3 -> Out_a3) : Prop := Sound Try.prog 105 ⟨M_a3, R_a3, pre, fn⟩
abbrev X_a3 : Ctx := ctx tys 12 (conOf []) (keepOf []) (fun _ => [])
noncomputable abbrev E_a3 (k : Nat) (x : In_a3) : Option Out_a3 := evFn X_a3 Try.f105 R_a3 M_a3 k x
theorem ev_a3 (k : Nat) (x0 : Dm (.imm L_lBatSig)) (x1 : Dm (.imm I)) : E_a3 k (x0, x1, ()) =
  (bif (decide ((w64 (x1 - (List.length x0 : Int))) < (0 : Int))) then (some ((-1 : Int), ())) else (some ((w64 (x1 - (List.length x0 : Int))), ()))) := by kernel_rfl
theorem S_a3  {pre : In_a3 -> Bool} {fn : In_a3 -> Out_a3} (hev : ∀ x, pre x = true -> ∃ k, E_a3 k x = some (fn x)) : C_a3 pre fn := sound tysOk mixed (fn := Try.f105) rfl rfl rfl ConsOk.nil _ hev
/-! a4: lszBoolS -/
abbrev M_a4 : List Vm.Mode := [.imm L_bool, .imm I]
abbrev R_a4 : List (RK × Sh) := [(.imm, I)]
abbrev In_a4 : Type := (insSh M_a4).den
abbrev Out_a4 : Type := (outSh R_a4 M_a4).den
abbrev C_a4 (pre : In_a4 -> Bool) (fn : In_a4 -> Out_a4) : Prop := Sound Try.prog 106 ⟨M_a4, R_a4, pre, fn⟩
abbrev X_a4 : Ctx := ctx tys 12 (conOf []) (keepOf []) (fun _ => [])
noncomputable abbrev E_a4 (k : Nat) (x : In_a4) : Option Out_a4 := evFn X_a4 Try.f106 R_a4 M_a4 k x
theorem ev_a4 (k : Nat) (x0 : Dm (.imm L_bool)) (x1 : Dm (.imm I)) : E_a4 k (x0, x1, ()) =
  (bif (decide ((w64 (x1 - (List.length x0 : Int))) < (0 : Int))) then (some ((-1 : Int), ())) else (some ((w64 (x1 - (List.length x0 : Int))), ()))) := by kernel_rfl
theorem S_a4  {pre : In_a4 -> Bool} {fn : In_a4 -> Out_a4} (hev : ∀ x, pre x = true -> ∃ k, E_a4 k x = some (fn x)) : C_a4 pre fn := sound tysOk mixed (fn := Try.f106) rfl rfl rfl ConsOk.nil _ hev
/-! a5: lszBatBatch -/
abbrev M_a5 : List Vm.Mode := [.imm S_lBatBatch, .imm I]
abbrev R_a5 : List (RK × Sh) := [(.imm, I)]
abbrev In_a5 : Type := (insSh M_a5).den
abbrev Out_a5 : Type := (outSh R_a5 M_a5).den
abbrev C_a5 (pre : In_a5 -> Bool) (fn : In_a5 -> Out_a5) : Prop := Sound Try.prog 40 ⟨M_a5, R_a5, pre, fn⟩
section
variable (g_a2 : In_a2 -> Out_a2) (p_a2 : In_a2 -> Bool) (g_a3 : In_a3 -> Out_a3) (p_a3 : In_a3 -> Bool) (g_a4 : In_a4 -> Out_a4) (p_a4 : In_a4 -> Bool)
abbrev X_a5 : Ctx := ctx tys 24 (conOf [(104, ⟨M_a2, R_a2, p_a2, g_a2⟩), (105, ⟨M_a3, R_a3, p_a3, g_a3⟩), (106, ⟨M_a4, R_a4, p_a4, g_a4⟩)]) (keepOf []) (fun _ => [])
noncomputable abbrev E_a5 (k : Nat) (x : In_a5) : Option Out_a5 := evFn (X_a5 g_a2 p_a2 g_a3 p_a3 g_a4 p_a4) Try.f40 R_a5 M_a5 k x
variable {g_a2 p_a2 g_a3 p_a3 g_a4 p_a4}
theorem ev_a5 (k : Nat) (x0 : Dm (.imm S_lBatBatch)) (x1 : Dm (.imm I)) : E_a5 g_a2 p_a2 g_a3 p_a3 g_a4 p_a4 k (x0, x1, ()) =
  (cl (p_a2 (x0.2.2.1, (x1, ()))) (g_a2 (x0.2.2.1, (x1, ()))) fun y0 => (bif (decide (y0.1 < (0 : Int))) then (some ((-1 : Int), ())) else (cl (p_a3 (x0.2.2.2.2.1, (y0.1, ()))) (g_a3 (x0.2.2.2.2.1, (y0.1, ()))) fun y1 => (bif (decide (y1.1 < (0 : Int))) then (some ((-1 : Int), ())) else (cl (p_a4 (x0.2.2.2.2.2, (y1.1, ()))) (g_a4 (x0.2.2.2.2.2, (y1.1, ()))) fun y2 => (bif (decide (y2.1 < (0 : Int))) then (some ((-1 : Int), ())) else (some (y2.1, ())))))))) := by kernel_rfl
theorem S_a5 (h_a2 : C_a2 p_a2 g_a2) (h_a3 : C_a3 p_a3 g_a3) (h_a4 : C_a4 p_a4 g_a4) {pre : In_a5 -> Bool} {fn : In_a5 -> Out_a5} (hev : ∀ x, pre x = true -> ∃ k, E_a5 g_a2 p_a2 g_a3 p_a3 g_a4 p_a4 k x = some (fn x)) : C_a5 pre fn := sound tysOk mixed (fn := Try.f40) rfl rfl rfl (.cons h_a2 (.cons h_a3 (.cons h_a4 .nil))) _ hev
end
/-! a6: ltoDecDec -/
abbrev M_a6 : List Vm.Mode := [.imm S_DecDec]
abbrev R_a6 : List (RK × Sh) := [(.imm, S_DecDec)]
abbrev In_a6 : Type := (insSh M_a6).den
abbrev Out_a6 : Type := (outSh R_a6 M_a6).den
abbrev C_a6 (pre : In_a6 -> Bool) (fn : In_a6 -> Out_a6) : Prop := Sound Try.prog 153 ⟨M_a6, R_a6, pre, fn⟩
abbrev X_a6 : Ctx := ctx tys 11 (conOf []) (keepOf []) (fun _ => [])
noncomputable abbrev E_a6 (k : Nat) (x : In_a6) : Option Out_a6 := evFn X_a6 Try.f153 R_a6 M_a6 k x
theorem ev_a6 (k : Nat) (x0 : Dm (.imm S_DecDec)) : E_a6 k (x0, ()) =
  (some (x0, ())) := by kernel_rfl
theorem S_a6  {pre : In_a6 -> Bool} {fn : In_a6 -> Out_a6} (hev : ∀ x, pre x = true -> ∃ k, E_a6 k x = some (fn x)) : C_a6 pre fn := sound tysOk mixed (fn := Try.f153) rfl rfl rfl ConsOk.nil _ hev
/-! a7: ltoSpcTest -/
abbrev M_a7 : List Vm.Mode := [.imm S_SpcTest]
abbrev R_a7 : List (RK × Sh) := [(.imm, S_SpcTest)]
abbrev In_a7 : Type := (insSh M_a7).den
abbrev Out_a7 : Type := (outSh R_a7 M_a7).den
abbrev C_a7 (pre : In_a7 -> Bool) (fn : In_a7 -> Out_a7) : Prop := Sound Try.prog 91 ⟨M_a7, R_a7, pre, fn⟩
section
variable (g_a6 : In_a6 -> Out_a6)
abbrev X_a7 : Ctx := ctx tys 19 (conOf [(153, ⟨M_a6, R_a6, fun _ => true, g_a6⟩)]) (keepOf []) (fun _ => [])
noncomputable abbrev E_a7 (k : Nat) (x : In_a7) : Option Out_a7 := evFn (X_a7 g_a6) Try.f91 R_a7 M_a7 k x
variable {g_a6}
theorem ev_a7 (k : Nat) (x0 : Dm (.imm S_SpcTest)) : E_a7 g_a6 k (x0, ()) =
  (some ((x0.1, ((g_a6 (x0.2.1, ())).1, ((g_a6 (x0.2.2.1, ())).1, x0.2.2.2))), ())) := by kernel_rfl
theorem S_a7 (h_a6 : C_a6 (fun _ => true) g_a6) {pre : In_a7 -> Bool} {fn : In_a7 -> Out_a7} (hev : ∀ x, pre x = true -> ∃ k, E_a7 g_a6 k x = some (fn x)) : C_a7 pre fn := sound tysOk mixed (fn := Try.f91) rfl rfl rfl (.cons h_a6 .nil) _ hev
end
/-! a8: ltoDecDecS -/
abbrev M_a8 : List Vm.Mode := [.imm L_lDecDec]
abbrev R_a8 : List (RK × Sh) := [(.own, L_DecDec)]
abbrev In_a8 : Type := (insSh M_a8).den
abbrev Out_a8 : Type := (outSh R_a8 M_a8).den
abbrev C_a8 (pre : In_a8 -> Bool) (fn : In_a8 -> Out_a8) : Prop := Sound Try.prog 194 ⟨M_a8, R_a8, pre, fn⟩
section
variable (g_a6 : In_a6 -> Out_a6)
abbrev X_a8 : Ctx := ctx tys 23 (conOf [(153, ⟨M_a6, R_a6, fun _ => true, g_a6⟩)]) (keepOf [(pt0, (⟨[(0, .asis), (3, .own), (4, .asis)], [], []⟩ : Keep))]) (fun _ => [])
noncomputable abbrev E_a8 (k : Nat) (x : In_a8) : Option Out_a8 := evFn (X_a8 g_a6) Try.f194 R_a8 M_a8 k x
def h0_a8 (x0 : Dm (.imm L_lDecDec)) (h0 : Dn I) (h1 : (List (Dn S_DecDec))) : St := mkS [(0, (AV.val L_lDecDec x0)), (3, (AV.sref 2503 none [])), (4, (AV.val I h0))] [(2503, (Ob.arr 24 S_DecDec h1))]
noncomputable def r_a8 (x : In_a8) (k : Nat) (p : List Bool) (s : St) : Option Out_a8 := rounds (X_a8 g_a6) Try.f194 R_a8 M_a8 x k p s
variable {g_a6}
theorem ev_a8 (k : Nat) (x0 : Dm (.imm L_lDecDec)) : E_a8 g_a6 k (x0, ()) =
  (bif (bif (bif (decide ((0 : Int) <= (List.length x0 : Int))) then (decide ((List.length x0 : Int) <= (BIG : Int))) else false) then (decide ((List.length x0 : Int) = (List.length x0 : Int))) else false) then (r_a8 g_a6 (x0, ()) k pt0 (h0_a8 x0 (0 : Int) (List.replicate (Int.toNat (List.length x0 : Int)) ((0 : Int), (0 : Int))))) else none) := by kernel_rfl
theorem rd0_a8 (k : Nat) (x0 : Dm (.imm L_lDecDec)) (h0 : Dn I) (h1 : (List (Dn S_DecDec))) : r_a8 g_a6 (x0, ()) (k + 1) pt0 (h0_a8 x0 h0 h1) =
  (bif (decide (h0 < (List.length x0 : Int))) then (bif (bif (decide ((0 : Int) <= h0)) then (decide (h0 < (List.length x0 : Int))) else false) then (bif (bif (decide ((0 : Int) <= h0)) then (decide (h0 < (List.length h1 : Int))) else false) then (r_a8 g_a6 (x0, ()) k pt0 (h0_a8 x0 (w64 (h0 + (1 : Int))) (List.set h1 (Int.toNat h0) (g_a6 ((rdL (e := S_DecDec) x0 h0), ())).1))) else none) else none) else (some (h1, ()))) := by kernel_rfl
theorem S_a8 (h_a6 : C_a6 (fun _ => true) g_a6) {pre : In_a8 -> Bool} {fn : In_a8 -> Out_a8} (hev : ∀ x, pre x = true -> ∃ k, E_a8 g_a6 k x = some (fn x)) : C_a8 pre fn := sound tysOk mixed (fn := Try.f194) rfl rfl rfl (.cons h_a6 .nil) _ hev
end
/-! a9: ltoTstTest -/
abbrev M_a9 : List Vm.Mode := [.imm S_lTstTest]
abbrev R_a9 : List (RK × Sh) := [(.own, S_TstTest)]
abbrev In_a9 : Type := (insSh M_a9).den
abbrev Out_a9 : Type := (outSh R_a9 M_a9).den
abbrev C_a9 (pre : In_a9 -> Bool) (fn : In_a9 -> Out_a9) : Prop := Sound Try.prog 159 ⟨M_a9, R_a9, pre, fn⟩
section
variable (g_a7 : In_a7 -> Out_a7) (g_a6 : In_a6 -> Out_a6) (g_a8 : In_a8 -> Out_a8) (p_a8 : In_a8 -> Bool)
abbrev X_a9 : Ctx := ctx tys 23 (conOf [(91, ⟨M_a7, R_a7, fun _ => true, g_a7⟩), (153, ⟨M_a6, R_a6, fun _ => true, g_a6⟩), (194, ⟨M_a8, R_a8, p_a8, g_a8⟩)]) (keepOf []) (fun _ => [])
noncomputable abbrev E_a9 (k : Nat) (x : In_a9) : Option Out_a9 := evFn (X_a9 g_a7 g_a6 g_a8 p_a8) Try.f159 R_a9 M_a9 k x
variable {g_a7 g_a6 g_a8 p_a8}
theorem ev_a9 (k : Nat) (x0 : Dm (.imm S_lTstTest)) : E_a9 g_a7 g_a6 g_a8 p_a8 k (x0, ()) =
  (bif (p_a8 (x0.2.2.2.2, ())) then (some (((g_a7 (x0.1, ())).1, (x0.2.1, ((g_a6 (x0.2.2.1, ())).1, (x0.2.2.2.1, (g_a8 (x0.2.2.2.2, ())).1)))), ())) else none) := by kernel_rfl
theorem S_a9 (h_a7 : C_a7 (fun _ => true) g_a7) (h_a6 : C_a6 (fun _ => true) g_a6) (h_a8 : C_a8 p_a8 g_a8) {pre : In_a9 -> Bool} {fn : In_a9 -> Out_a9} (hev : ∀ x, pre x = true -> ∃ k, E_a9 g_a7 g_a6 g_a8 p_a8 k x = some (fn x)) : C_a9 pre fn := sound tysOk mixed (fn := Try.f159) rfl rfl rfl (.cons h_a7 (.cons h_a6 (.cons h_a8 .nil))) _ hev
end
/-! aa: ltoTstTestS -/
abbrev M_aa : List Vm.Mode := [.imm L_lTstTest]
abbrev R_aa : List (RK × Sh) := [(.own, L_TstTest)]
abbrev In_aa : Type := (insSh M_aa).den
abbrev Out_aa : Type := (outSh R_aa M_aa).den
abbrev C_aa (pre : In_aa -> Bool) (fn : In_aa -> Out_aa) : Prop := Sound Try.prog 108 ⟨M_aa, R_aa, pre, fn⟩
section
variable (g_a9 : In_a9 -> Out_a9) (p_a9 : In_a9 -> Bool)
abbrev X_aa : Ctx := ctx tys 23 (conOf [(159, ⟨M_a9, R_a9, p_a9, g_a9⟩)]) (keepOf [(pt0, (⟨[(0, .asis), (3, .own), (4, .asis)], [], []⟩ : Keep))]) (fun _ => [])
noncomputable abbrev E_aa (k : Nat) (x : In_aa) : Option Out_aa := evFn (X_aa g_a9 p_a9) Try.f108 R_aa M_aa k x
def h0_aa (x0 : Dm (.imm L_lTstTest)) (h0 : Dn I) (h1 : (List (Dn S_TstTest))) : St := mkS [(0, (AV.val L_lTstTest x0)), (3, (AV.sref 2503 none [])), (4, (AV.val I h0))] [(2503, (Ob.arr 29 S_TstTest h1))]
noncomputable def r_aa (x : In_aa) (k : Nat) (p : List Bool) (s : St) : Option Out_aa := rounds (X_aa g_a9 p_a9) Try.f108 R_aa M_aa x k p s
variable {g_a9 p_a9}
theorem ev_aa (k : Nat) (x0 : Dm (.imm L_lTstTest)) : E_aa g_a9 p_a9 k (x0, ()) =
  (bif (bif (bif (decide ((0 : Int) <= (List.length x0 : Int))) then (decide ((List.length x0 : Int) <= (BIG : Int))) else false) then (decide ((List.length x0 : Int) = (List.length x0 : Int))) else false) then (r_aa g_a9 p_a9 (x0, ()) k pt0 (h0_aa x0 (0 : Int) (List.replicate (Int.toNat (List.length x0 : Int)) (((0 : Int), (((0 : Int), (0 : Int)), (((0 : Int), (0 : Int)), (0 : Int)))), ((0 : Int), (((0 : Int), (0 : Int)), ((0 : Int), []))))))) else none) := by kernel_rfl
theorem rd0_aa (k : Nat) (x0 : Dm (.imm L_lTstTest)) (h0 : Dn I) (h1 : (List (Dn S_TstTest))) : r_aa g_a9 p_a9 (x0, ()) (k + 1) pt0 (h0_aa x0 h0 h1) =
  (bif (decide (h0 < (List.length x0 : Int))) then (bif (bif (decide ((0 : Int) <= h0)) then (decide (h0 < (List.length x0 : Int))) else false) then (cl (p_a9 ((rdL (e := S_lTstTest) x0 h0), ())) (g_a9 ((rdL (e := S_lTstTest) x0 h0), ())) fun y0 => (bif (bif (decide ((0 : Int) <= h0)) then (decide (h0 < (List.length h1 : Int))) else false) then (r_aa g_a9 p_a9 (x0, ()) k pt0 (h0_aa x0 (w64 (h0 + (1 : Int))) (List.set h1 (Int.toNat h0) y0.1))) else none)) else none) else (some (h1, ()))) := by kernel_rfl
theorem S_aa (h_a9 : C_a9 p_a9 g_a9) {pre : In_aa -> Bool} {fn : In_aa -> Out_aa} (hev : ∀ x, pre x = true -> ∃ k, E_aa g_a9 p_a9 k x = some (fn x)) : C_aa pre fn := sound tysOk mixed (fn := Try.f108) rfl rfl rfl (.cons h_a9 .nil) _ hev
end
/-! ab: ltoBatSig -/
abbrev M_ab : List Vm.Mode := [.imm S_DayDay]
abbrev R_ab : List (RK × Sh) := [(.imm, S_DayDay)]
abbrev In_ab : Type := (insSh M_ab).den
abbrev Out_ab : Type := (outSh R_ab M_ab).den
abbrev C_ab (pre : In_ab -> Bool) (fn : In_ab -> Out_ab) : Prop := Sound Try.prog 160 ⟨M_ab, R_ab, pre, fn⟩
abbrev X_ab : Ctx := ctx tys 14 (conOf []) (keepOf []) (fun _ => [])
noncomputable abbrev E_ab (k : Nat) (x : In_ab) : Option Out_ab := evFn X_ab Try.f160 R_ab M_ab k x
theorem ev_ab (k : Nat) (x0 : Dm (.imm S_DayDay)) : E_ab k (x0, ()) =
  (some (x0, ())) := by kernel_rfl
theorem S_ab  {pre : In_ab -> Bool} {fn : In_ab -> Out_ab} (hev : ∀ x, pre x = true -> ∃ k, E_ab k x = some (fn x)) : C_ab pre fn := sound tysOk mixed (fn := Try.f160) rfl rfl rfl ConsOk.nil _ hev
/-! ac: ltoBatSigS -/
abbrev M_ac : List Vm.Mode := [.imm L_lBatSig]
abbrev R_ac : List (RK × Sh) := [(.own, L_BatSig)]
abbrev In_ac : Type := (insSh M_ac).den
abbrev Out_ac : Type := (outSh R_ac M_ac).den
abbrev C_ac (pre : In_ac -> Bool) (fn : In_ac -> Out_ac) : Prop := Sound Try.prog 109 ⟨M_ac, R_ac, pre, fn⟩
section
variable (g_ab : In_ab -> Out_ab) (p_ab : In_ab -> Bool)
abbrev X_ac : Ctx := ctx tys 23 (conOf [(160, ⟨M_ab, R_ab, p_ab, g_ab⟩)]) (keepOf [(pt0, (⟨[(0, .asis), (3, .own), (4, .asis)], [], []⟩ : Keep))]) (fun _ => [])
noncomputable abbrev E_ac (k : Nat) (x : In_ac) : Option Out_ac := evFn (X_ac g_ab p_ab) Try.f109 R_ac M_ac k x
def h0_ac (x0 : Dm (.imm L_lBatSig)) (h0 : Dn I) (h1 : (List (Dn S_DayDay))) : St := mkS [(0, (AV.val L_lBatSig x0)), (3, (AV.sref 2503 none [])), (4, (AV.val I h0))] [(2503, (Ob.arr 133 S_DayDay h1))]
noncomputable def r_ac (x : In_ac) (k : Nat) (p : List Bool) (s : St) : Option Out_ac := rounds (X_ac g_ab p_ab) Try.f109 R_ac M_ac x k p s
variable {g_ab p_ab}
theorem ev_ac (k : Nat) (x0 : Dm (.imm L_lBatSig)) : E_ac g_ab p_ab k (x0, ()) =
  (bif (bif (bif (decide ((0 : Int) <= (List.length x0 : Int))) then (decide ((List.length x0 : Int) <= (BIG : Int))) else false) then (decide ((List.length x0 : Int) = (List.length x0 : Int))) else false) then (r_ac g_ab p_ab (x0, ()) k pt0 (h0_ac x0 (0 : Int) (List.replicate (Int.toNat (List.length x0 : Int)) ((0 : Int), ((0 : Int), (0 : Int)))))) else none) := by kernel_rfl
theorem rd0_ac (k : Nat) (x0 : Dm (.imm L_lBatSig)) (h0 : Dn I) (h1 : (List (Dn S_DayDay))) : r_ac g_ab p_ab (x0, ()) (k + 1) pt0 (h0_ac x0 h0 h1) =
  (bif (decide (h0 < (List.length x0 : Int))) then (bif (bif (decide ((0 : Int) <= h0)) then (decide (h0 < (List.length x0 : Int))) else false) then (cl (p_ab ((rdL (e := S_DayDay) x0 h0), ())) (g_ab ((rdL (e := S_DayDay) x0 h0), ())) fun y0 => (bif (bif (decide ((0 : Int) <= h0)) then (decide (h0 < (List.length h1 : Int))) else false) then (r_ac g_ab p_ab (x0, ()) k pt0 (h0_ac x0 (w64 (h0 + (1 : Int))) (List.set h1 (Int.toNat h0) y0.1))) else none)) else none) else (some (h1, ()))) := by kernel_rfl
theorem S_ac (h_ab : C_ab p_ab g_ab) {pre : In_ac -> Bool} {fn : In_ac -> Out_ac} (hev : ∀ x, pre x = true -> ∃ k, E_ac g_ab p_ab k x = some (fn x)) : C_ac pre fn := sound tysOk mixed (fn := Try.f109) rfl rfl rfl (.cons h_ab .nil) _ hev
end
/-! ad: ltoBoolS -/
abbrev M_ad : List Vm.Mode := [.imm L_bool]
abbrev R_ad : List (RK × Sh) := [(.own, L_bool)]
abbrev In_ad : Type := (insSh M_ad).den
abbrev Out_ad : Type := (outSh R_ad M_ad).den
abbrev C_ad (pre : In_ad -> Bool) (fn : In_ad -> Out_ad) : Prop := Sound Try.prog 110 ⟨M_ad, R_ad, pre, fn⟩
abbrev X_ad : Ctx := ctx tys 22 (conOf []) (keepOf [(pt0, (⟨[(0, .asis), (3, .own), (4, .asis)], [], []⟩ : Keep))]) (fun _ => [])
noncomputable abbrev E_ad (k : Nat) (x : In_ad) : Option Out_ad := evFn X_ad Try.f110 R_ad M_ad k x
def h0_ad (x0 : Dm (.imm L_bool)) (h0 : Dn I) (h1 : (List (Dn Sh.bool))) : St := mkS [(0, (AV.val L_bool x0)), (3, (AV.sref 2503 none [])), (4, (AV.val I h0))] [(2503, (Ob.arr 4 Sh.bool h1))]
noncomputable def r_ad (x : In_ad) (k : Nat) (p : List Bool) (s : St) : Option Out_ad := rounds X_ad Try.f110 R_ad M_ad x k p s
theorem ev_ad (k : Nat) (x0 : Dm (.imm L_bool)) : E_ad k (x0, ()) =
  (bif (bif (bif (decide ((0 : Int) <= (List.length x0 : Int))) then (decide ((List.length x0 : Int) <= (BIG : Int))) else false) then (decide ((List.length x0 : Int) = (List.length x0 : Int))) else false) then (r_ad  (x0, ()) k pt0 (h0_ad x0 (0 : Int) (List.replicate (Int.toNat (List.length x0 : Int)) false))) else none) := by kernel_rfl
theorem rd0_ad (k : Nat) (x0 : Dm (.imm L_bool)) (h0 : Dn I) (h1 : (List (Dn Sh.bool))) : r_ad  (x0, ()) (k + 1) pt0 (h0_ad x0 h0 h1) =
  (bif (decide (h0 < (List.length x0 : Int))) then (bif (bif (decide ((0 : Int) <= h0)) then (decide (h0 < (List.length x0 : Int))) else false) then (bif (bif (decide ((0 : Int) <= h0)) then (decide (h0 < (List.length h1 : Int))) else false) then (r_ad  (x0, ()) k pt0 (h0_ad x0 (w64 (h0 + (1 : Int))) (List.set h1 (Int.toNat h0) (rdL (e := Sh.bool) x0 h0)))) else none) else none) else (some (h1, ()))) := by kernel_rfl
theorem S_ad  {pre : In_ad -> Bool} {fn : In_ad -> Out_ad} (hev : ∀ x, pre x = true -> ∃ k, E_ad k x = some (fn x)) : C_ad pre fn := sound tysOk mixed (fn := Try.f110) rfl rfl rfl ConsOk.nil _ hev
/-! ae: ltoBatBatch -/
abbrev M_ae : List Vm.Mode := [.imm S_lBatBatch]
abbrev R_ae : List (RK × Sh) := [(.own, S_BatBatch)]
abbrev In_ae : Type := (insSh M_ae).den
abbrev Out_ae : Type := (outSh R_ae M_ae).den
abbrev C_ae (pre : In_ae -> Bool) (fn : In_ae -> Out_ae) : Prop := Sound Try.prog 42 ⟨M_ae, R_ae, pre, fn⟩
section
variable (g_aa : In_aa -> Out_aa) (p_aa : In_aa -> Bool) (g_ac : In_ac -> Out_ac) (p_ac : In_ac -> Bool) (g_ad : In_ad -> Out_ad) (p_ad : In_ad -> Bool)
abbrev X_ae : Ctx := ctx tys 26 (conOf [(108, ⟨M_aa, R_aa, p_aa, g_aa⟩), (109, ⟨M_ac, R_ac, p_ac, g_ac⟩), (110, ⟨M_ad, R_ad, p_ad, g_ad⟩)]) (keepOf []) (fun _ => [])
noncomputable abbrev E_ae (k : Nat) (x : In_ae) : Option Out_ae := evFn (X_ae g_aa p_aa g_ac p_ac g_ad p_ad) Try.f42 R_ae M_ae k x
variable {g_aa p_aa g_ac p_ac g_ad p_ad}
theorem ev_ae (k : Nat) (x0 : Dm (.imm S_lBatBatch)) : E_ae g_aa p_aa g_ac p_ac g_ad p_ad k (x0, ()) =
  (cl (p_aa (x0.2.2.1, ())) (g_aa (x0.2.2.1, ())) fun y0 => (cl (p_ac (x0.2.2.2.2.1, ())) (g_ac (x0.2.2.2.2.1, ())) fun y1 => (cl (p_ad (x0.2.2.2.2.2, ())) (g_ad (x0.2.2.2.2.2, ())) fun y2 => (some ((x0.1, (x0.2.1, (y0.1, (x0.2.2.2.1, (y1.1, y2.1))))), ()))))) := by kernel_rfl
theorem S_ae (h_aa : C_aa p_aa g_aa) (h_ac : C_ac p_ac g_ac) (h_ad : C_ad p_ad g_ad) {pre : In_ae -> Bool} {fn : In_ae -> Out_ae} (hev : ∀ x, pre x = true -> ∃ k, E_ae g_aa p_aa g_ac p_ac g_ad p_ad k x = some (fn x)) : C_ae pre fn := sound tysOk mixed (fn := Try.f42) rfl rfl rfl (.cons h_aa (.cons h_ac (.cons h_ad .nil))) _ hev
end
/-! af: sl1In -/
abbrev M_af : List Vm.Mode := [.imm I, .imm I, .imm I]
abbrev R_af : List (RK × Sh) := [(.imm, .bool)]
abbrev In_af : Type := (insSh M_af).den
abbrev Out_af : Type := (outSh R_af M_af).den
abbrev C_af (pre : In_af -> Bool) (fn : In_af -> Out_af) : Prop := Sound Try.prog 75 ⟨M_af, R_af, pre, fn⟩
abbrev X_af : Ctx := ctx tys 15 (conOf []) (keepOf []) (fun _ => [])
noncomputable abbrev E_af (k : Nat) (x : In_af) : Option Out_af := evFn X_af Try.f75 R_af M_af k x
theorem ev_af (k : Nat) (x0 : Dm (.imm I)) (x1 : Dm (.imm I)) (x2 : Dm (.imm I)) : E_af k (x0, x1, x2, ()) =
  (bif (decide (x1 <= x0)) then (some ((decide (x0 <= x2)), ())) else (some (false, ()))) := by kernel_rfl
theorem S_af  {pre : In_af -> Bool} {fn : In_af -> Out_af} (hev : ∀ x, pre x = true -> ∃ k, E_af k x = some (fn x)) : C_af pre fn := sound tysOk mixed (fn := Try.f75) rfl rfl rfl ConsOk.nil _ hev
/-! ag: sl1Ten -/
abbrev M_ag : List Vm.Mode := [.imm I]
abbrev R_ag : List (RK × Sh) := [(.imm, I)]
abbrev In_ag : Type := (insSh M_ag).den
abbrev Out_ag : Type := (outSh R_ag M_ag).den
abbrev C_ag (pre : In_ag -> Bool) (fn : In_ag -> Out_ag) : Prop := Sound Try.prog 78 ⟨M_ag, R_ag, pre, fn⟩
abbrev X_ag : Ctx := ctx tys 13 (conOf []) (keepOf [(pt0, (⟨[(0, .asis), (3, .asis), (4, .asis)], [], []⟩ : Keep))]) (fun _ => [])
noncomputable abbrev E_ag (k : Nat) (x : In_ag) : Option Out_ag := evFn X_ag Try.f78 R_ag M_ag k x
def h0_ag (x0 : Dm (.imm I)) (h0 : Dn I) (h1 : Dn I) : St := mkS [(0, (AV.val I x0)), (3, (AV.val I h0)), (4, (AV.val I h1))] []
noncomputable def r_ag (x : In_ag) (k : Nat) (p : List Bool) (s : St) : Option Out_ag := rounds X_ag Try.f78 R_ag M_ag x k p s
theorem ev_ag (k : Nat) (x0 : Dm (.imm I)) : E_ag k (x0, ()) =
  (r_ag  (x0, ()) k pt0 (h0_ag x0 (1 : Int) (0 : Int))) := by kernel_rfl
theorem rd0_ag (k : Nat) (x0 : Dm (.imm I)) (h0 : Dn I) (h1 : Dn I) : r_ag  (x0, ()) (k + 1) pt0 (h0_ag x0 h0 h1) =
  (bif (decide (h1 < x0)) then (r_ag  (x0, ()) k pt0 (h0_ag x0 (w64 (h0 * (10 : Int))) (w64 (h1 + (1 : Int))))) else (some (h0, ()))) := by kernel_rfl
theorem S_ag  {pre : In_ag -> Bool} {fn : In_ag -> Out_ag} (hev : ∀ x, pre x = true -> ∃ k, E_ag k x = some (fn x)) : C_ag pre fn := sound tysOk mixed (fn := Try.f78) rfl rfl rfl ConsOk.nil _ hev
/-! ah: sDecOk -/
abbrev M_ah : List Vm.Mode := [.imm S_DecDec]
abbrev R_ah : List (RK × Sh) := [(.imm, .bool)]
abbrev In_ah : Type := (insSh M_ah).den
abbrev Out_ah : Type := (outSh R_ah M_ah).den
abbrev C_ah (pre : In_ah -> Bool) (fn : In_ah -> Out_ah) : Prop := Sound Try.prog 18 ⟨M_ah, R_ah, pre, fn⟩
section
variable (g_af : In_af -> Out_af) (g_ag : In_ag -> Out_ag) (p_ag : In_ag -> Bool)
abbrev X_ah : Ctx := ctx tys 19 (conOf [(75, ⟨M_af, R_af, fun _ => true, g_af⟩), (78, ⟨M_ag, R_ag, p_ag, g_ag⟩)]) (keepOf []) (fun _ => [])
noncomputable abbrev E_ah (k : Nat) (x : In_ah) : Option Out_ah := evFn (X_ah g_af g_ag p_ag) Try.f18 R_ah M_ah k x
variable {g_af g_ag p_ag}
theorem ev_ah (k : Nat) (x0 : Dm (.imm S_DecDec)) : E_ah g_af g_ag p_ag k (x0, ()) =
  (bif (g_af (x0.2, ((0 : Int), ((3 : Int), ())))).1 then (bif (p_ag (x0.2, ())) then (bif (p_ag (x0.2, ())) then (some ((g_af (x0.1, ((w64 ((-9999 : Int) * (g_ag (x0.2, ())).1)), ((w64 ((9999 : Int) * (g_ag (x0.2, ())).1)), ())))).1, ())) else none) else none) else (some (false, ()))) := by kernel_rfl
theorem S_ah (h_af : C_af (fun _ => true) g_af) (h_ag : C_ag p_ag g_ag) {pre : In_ah -> Bool} {fn : In_ah -> Out_ah} (hev : ∀ x, pre x = true -> ∃ k, E_ah g_af g_ag p_ag k x = some (fn x)) : C_ah pre fn := sound tysOk mixed (fn := Try.f18) rfl rfl rfl (.cons h_af (.cons h_ag .nil)) _ hev
end
/-! ai: sl1Near -/
abbrev M_ai : List Vm.Mode := [.imm I, .imm I]
abbrev R_ai : List (RK × Sh) := [(.imm, I)]
abbrev In_ai : Type := (insSh M_ai).den
abbrev Out_ai : Type := (outSh R_ai M_ai).den
abbrev C_ai (pre : In_ai -> Bool) (fn : In_ai -> Out_ai) : Prop := Sound Try.prog 189 ⟨M_ai, R_ai, pre, fn⟩
section
variable (g_ai : In_ai -> Out_ai) (p_ai : In_ai -> Bool)
abbrev X_ai : Ctx := ctx tys 19 (conOf [(189, ⟨M_ai, R_ai, p_ai, g_ai⟩)]) (keepOf []) (fun _ => [])
noncomputable abbrev E_ai (k : Nat) (x : In_ai) : Option Out_ai := evFn (X_ai g_ai p_ai) Try.f189 R_ai M_ai k x
variable {g_ai p_ai}
theorem ev_ai (k : Nat) (x0 : Dm (.imm I)) (x1 : Dm (.imm I)) : E_ai g_ai p_ai k (x0, x1, ()) =
  (bif (decide (x0 < (0 : Int))) then (bif (p_ai ((w64 ((0 : Int) - x0)), (x1, ()))) then (some ((w64 ((0 : Int) - (g_ai ((w64 ((0 : Int) - x0)), (x1, ()))).1)), ())) else none) else (bif (bif (decide ((w64 ((2 : Int) * x1)) = (0 : Int))) then false else true) then (some ((w64 (Int.tdiv (w64 ((w64 ((2 : Int) * x0)) + x1)) (w64 ((2 : Int) * x1)))), ())) else none)) := by kernel_rfl
theorem S_ai (h_ai : C_ai p_ai g_ai) {pre : In_ai -> Bool} {fn : In_ai -> Out_ai} (hev : ∀ x, pre x = true -> ∃ k, E_ai g_ai p_ai k x = some (fn x)) : C_ai pre fn := sound tysOk mixed (fn := Try.f189) rfl rfl rfl (.cons h_ai .nil) _ hev
end
theorem S0_ai {fn : In_ai -> Out_ai} : C_ai (fun _ => false) fn := sound tysOk mixed (fn := Try.f189) (n := 19) (keep := keepOf []) (fz := fun _ => []) rfl rfl rfl ConsOk.nil _ fun x hx => by cases hx
/-! aj: sl1At -/
abbrev M_aj : List Vm.Mode := [.imm S_DecDec, .imm I]
abbrev R_aj : List (RK × Sh) := [(.imm, S_DecDec)]
abbrev In_aj : Type := (insSh M_aj).den
abbrev Out_aj : Type := (outSh R_aj M_aj).den
abbrev C_aj (pre : In_aj -> Bool) (fn : In_aj -> Out_aj) : Prop := Sound Try.prog 144 ⟨M_aj, R_aj, pre, fn⟩
section
variable (g_ag : In_ag -> Out_ag) (p_ag : In_ag -> Bool) (g_ai : In_ai -> Out_ai) (p_ai : In_ai -> Bool)
abbrev X_aj : Ctx := ctx tys 29 (conOf [(78, ⟨M_ag, R_ag, p_ag, g_ag⟩), (189, ⟨M_ai, R_ai, p_ai, g_ai⟩)]) (keepOf []) (fun _ => [])
noncomputable abbrev E_aj (k : Nat) (x : In_aj) : Option Out_aj := evFn (X_aj g_ag p_ag g_ai p_ai) Try.f144 R_aj M_aj k x
variable {g_ag p_ag g_ai p_ai}
theorem ev_aj (k : Nat) (x0 : Dm (.imm S_DecDec)) (x1 : Dm (.imm I)) : E_aj g_ag p_ag g_ai p_ai k (x0, x1, ()) =
  (bif (decide (x0.2 <= x1)) then (bif (p_ag ((w64 (x1 - x0.2)), ())) then (some (((w64 (x0.1 * (g_ag ((w64 (x1 - x0.2)), ())).1)), x1), ())) else none) else (bif (p_ag ((w64 (x0.2 - x1)), ())) then (bif (p_ai (x0.1, ((g_ag ((w64 (x0.2 - x1)), ())).1, ()))) then (some (((g_ai (x0.1, ((g_ag ((w64 (x0.2 - x1)), ())).1, ()))).1, x1), ())) else none) else none)) := by kernel_rfl
theorem S_aj (h_ag : C_ag p_ag g_ag) (h_ai : C_ai p_ai g_ai) {pre : In_aj -> Bool} {fn : In_aj -> Out_aj} (hev : ∀ x, pre x = true -> ∃ k, E_aj g_ag p_ag g_ai p_ai k x = some (fn x)) : C_aj pre fn := sound tysOk mixed (fn := Try.f144) rfl rfl rfl (.cons h_ag (.cons h_ai .nil)) _ hev
end
/-! ak: sDecCmp -/
abbrev M_ak : List Vm.Mode := [.imm S_DecDec, .imm S_DecDec]
abbrev R_ak : List (RK × Sh) := [(.imm, I)]
abbrev In_ak : Type := (insSh M_ak).den
abbrev Out_ak : Type := (outSh R_ak M_ak).den
abbrev C_ak (pre : In_ak -> Bool) (fn : In_ak -> Out_ak) : Prop := Sound Try.prog 143 ⟨M_ak, R_ak, pre, fn⟩
section
variable (g_ah : In_ah -> Out_ah) (g_aj : In_aj -> Out_aj) (p_aj : In_aj -> Bool)
abbrev X_ak : Ctx := ctx tys 29 (conOf [(18, ⟨M_ah, R_ah, fun _ => true, g_ah⟩), (144, ⟨M_aj, R_aj, p_aj, g_aj⟩)]) (keepOf []) (fun _ => [])
noncomputable abbrev E_ak (k : Nat) (x : In_ak) : Option Out_ak := evFn (X_ak g_ah g_aj p_aj) Try.f143 R_ak M_ak k x
variable {g_ah g_aj p_aj}
theorem ev_ak (k : Nat) (x0 : Dm (.imm S_DecDec)) (x1 : Dm (.imm S_DecDec)) : E_ak g_ah g_aj p_aj k (x0, x1, ()) =
  (bif (bif (g_ah (x0, ())).1 then false else true) then (some ((0 : Int), ())) else (bif (bif (g_ah (x1, ())).1 then false else true) then (some ((0 : Int), ())) else (bif (p_aj (x0, ((3 : Int), ()))) then (bif (p_aj (x1, ((3 : Int), ()))) then (bif (decide ((g_aj (x0, ((3 : Int), ()))).1.1 < (g_aj (x1, ((3 : Int), ()))).1.1)) then (some ((-1 : Int), ())) else (bif (decide ((g_aj (x1, ((3 : Int), ()))).1.1 < (g_aj (x0, ((3 : Int), ()))).1.1)) then (some ((1 : Int), ())) else (some ((0 : Int), ())))) else none) else none))) := by kernel_rfl
theorem S_ak (h_ah : C_ah (fun _ => true) g_ah) (h_aj : C_aj p_aj g_aj) {pre : In_ak -> Bool} {fn : In_ak -> Out_ak} (hev : ∀ x, pre x = true -> ∃ k, E_ak g_ah g_aj p_aj k x = some (fn x)) : C_ak pre fn := sound tysOk mixed (fn := Try.f143) rfl rfl rfl (.cons h_ah (.cons h_aj .nil)) _ hev
end
/-! al: sl3Test -/
abbrev M_al : List Vm.Mode := [.imm S_SpcTest]
abbrev R_al : List (RK × Sh) := [(.imm, .bool)]
abbrev In_al : Type := (insSh M_al).den
abbrev Out_al : Type := (outSh R_al M_al).den
abbrev C_al (pre : In_al -> Bool) (fn : In_al -> Out_al) : Prop := Sound Try.prog 74 ⟨M_al, R_al, pre, fn⟩
section
variable (g_af : In_af -> Out_af) (g_ah : In_ah -> Out_ah) (g_ak : In_ak -> Out_ak)
abbrev X_al : Ctx := ctx tys 29 (conOf [(75, ⟨M_af, R_af, fun _ => true, g_af⟩), (18, ⟨M_ah, R_ah, fun _ => true, g_ah⟩), (143, ⟨M_ak, R_ak, fun _ => true, g_ak⟩)]) (keepOf []) (fun _ => [])
noncomputable abbrev E_al (k : Nat) (x : In_al) : Option Out_al := evFn (X_al g_af g_ah g_ak) Try.f74 R_al M_al k x
variable {g_af g_ah g_ak}
theorem ev_al (k : Nat) (x0 : Dm (.imm S_SpcTest)) : E_al g_af g_ah g_ak k (x0, ()) =
  (bif (g_af (x0.1, ((1 : Int), ((4 : Int), ())))).1 then (bif (g_ah (x0.2.1, ())).1 then (bif (g_ah (x0.2.2.1, ())).1 then (bif (decide ((g_ak (x0.2.1, (x0.2.2.1, ()))).1 <= (0 : Int))) then (some ((g_af (x0.2.2.2, ((0 : Int), ((3 : Int), ())))).1, ())) else (some (false, ()))) else (some (false, ()))) else (some (false, ()))) else (some (false, ()))) := by kernel_rfl
theorem S_al (h_af : C_af (fun _ => true) g_af) (h_ah : C_ah (fun _ => true) g_ah) (h_ak : C_ak (fun _ => true) g_ak) {pre : In_al -> Bool} {fn : In_al -> Out_al} (hev : ∀ x, pre x = true -> ∃ k, E_al g_af g_ah g_ak k x = some (fn x)) : C_al pre fn := sound tysOk mixed (fn := Try.f74) rfl rfl rfl (.cons h_af (.cons h_ah (.cons h_ak .nil))) _ hev
end
/-! am: sTstNeed -/
abbrev M_am : List Vm.Mode := [.imm I]
abbrev R_am : List (RK × Sh) := [(.imm, I)]
abbrev In_am : Type := (insSh M_am).den
abbrev Out_am : Type := (outSh R_am M_am).den
abbrev C_am (pre : In_am -> Bool) (fn : In_am -> Out_am) : Prop := Sound Try.prog 76 ⟨M_am, R_am, pre, fn⟩
abbrev X_am : Ctx := ctx tys 8 (conOf []) (keepOf []) (fun _ => [])
noncomputable abbrev E_am (k : Nat) (x : In_am) : Option Out_am := evFn X_am Try.f76 R_am M_am k x
theorem ev_am (k : Nat) (x0 : Dm (.imm I)) : E_am k (x0, ()) =
  (bif (decide (x0 = (1 : Int))) then (some ((1 : Int), ())) else (bif (decide (x0 = (2 : Int))) then (some ((2 : Int), ())) else (some ((0 : Int), ())))) := by kernel_rfl
theorem S_am  {pre : In_am -> Bool} {fn : In_am -> Out_am} (hev : ∀ x, pre x = true -> ∃ k, E_am k x = some (fn x)) : C_am pre fn := sound tysOk mixed (fn := Try.f76) rfl rfl rfl ConsOk.nil _ hev
/-! an: sSpcIn -/
abbrev M_an : List Vm.Mode := [.imm S_SpcTest, .imm S_DecDec]
abbrev R_an : List (RK × Sh) := [(.imm, .bool)]
abbrev In_an : Type := (insSh M_an).den
abbrev Out_an : Type := (outSh R_an M_an).den
abbrev C_an (pre : In_an -> Bool) (fn : In_an -> Out_an) : Prop := Sound Try.prog 77 ⟨M_an, R_an, pre, fn⟩
section
variable (g_al : In_al -> Out_al) (g_ah : In_ah -> Out_ah) (g_aj : In_aj -> Out_aj) (p_aj : In_aj -> Bool) (g_ak : In_ak -> Out_ak)
abbrev X_an : Ctx := ctx tys 30 (conOf [(74, ⟨M_al, R_al, fun _ => true, g_al⟩), (18, ⟨M_ah, R_ah, fun _ => true, g_ah⟩), (144, ⟨M_aj, R_aj, p_aj, g_aj⟩), (143, ⟨M_ak, R_ak, fun _ => true, g_ak⟩)]) (keepOf []) (fun _ => [])
noncomputable abbrev E_an (k : Nat) (x : In_an) : Option Out_an := evFn (X_an g_al g_ah g_aj p_aj g_ak) Try.f77 R_an M_an k x
variable {g_al g_ah g_aj p_aj g_ak}
theorem ev_an (k : Nat) (x0 : Dm (.imm S_SpcTest)) (x1 : Dm (.imm S_DecDec)) : E_an g_al g_ah g_aj p_aj g_ak k (x0, x1, ()) =
  (bif (bif (g_al (x0, ())).1 then false else true) then (some (false, ())) else (bif (bif (g_ah (x1, ())).1 then false else true) then (some (false, ())) else (bif (p_aj (x1, (x0.2.2.2, ()))) then (bif (decide ((g_ak (x0.2.1, ((g_aj (x1, (x0.2.2.2, ()))).1, ()))).1 <= (0 : Int))) then (some ((decide ((g_ak ((g_aj (x1, (x0.2.2.2, ()))).1, (x0.2.2.1, ()))).1 <= (0 : Int))), ())) else (some (false, ()))) else none))) := by kernel_rfl
theorem S_an (h_al : C_al (fun _ => true) g_al) (h_ah : C_ah (fun _ => true) g_ah) (h_aj : C_aj p_aj g_aj) (h_ak : C_ak (fun _ => true) g_ak) {pre : In_an -> Bool} {fn : In_an -> Out_an} (hev : ∀ x, pre x = true -> ∃ k, E_an g_al g_ah g_aj p_aj g_ak k x = some (fn x)) : C_an pre fn := sound tysOk mixed (fn := Try.f77) rfl rfl rfl (.cons h_al (.cons h_ah (.cons h_aj (.cons h_ak .nil)))) _ hev
end
/-! ao: sDecMean -/
abbrev M_ao : List Vm.Mode := [.imm L_DecDec, .imm I]
abbrev R_ao : List (RK × Sh) := [(.imm, S_DecDec)]
abbrev In_ao : Type := (insSh M_ao).den
abbrev Out_ao : Type := (outSh R_ao M_ao).den
abbrev C_ao (pre : In_ao -> Bool) (fn : In_ao -> Out_ao) : Prop := Sound Try.prog 185 ⟨M_ao, R_ao, pre, fn⟩
section
variable (g_af : In_af -> Out_af) (g_ah : In_ah -> Out_ah) (g_aj : In_aj -> Out_aj) (p_aj : In_aj -> Bool) (g_ag : In_ag -> Out_ag) (p_ag : In_ag -> Bool) (g_ai : In_ai -> Out_ai) (p_ai : In_ai -> Bool)
abbrev X_ao : Ctx := ctx tys 52 (conOf [(75, ⟨M_af, R_af, fun _ => true, g_af⟩), (18, ⟨M_ah, R_ah, fun _ => true, g_ah⟩), (144, ⟨M_aj, R_aj, p_aj, g_aj⟩), (78, ⟨M_ag, R_ag, p_ag, g_ag⟩), (189, ⟨M_ai, R_ai, p_ai, g_ai⟩)]) (keepOf [(pt2, (⟨[(0, .asis), (1, .asis), (4, .asis), (5, .asis), (6, .asis)], [(4, .asis)], []⟩ : Keep))]) (fun _ => [])
noncomputable abbrev E_ao (k : Nat) (x : In_ao) : Option Out_ao := evFn (X_ao g_af g_ah g_aj p_aj g_ag p_ag g_ai p_ai) Try.f185 R_ao M_ao k x
def h0_ao (x0 : Dm (.imm L_DecDec)) (x1 : Dm (.imm I)) (h0 : Dn I) (h1 : Dn I) (h2 : Dn S_DecDec) : St := mkS [(0, (AV.val L_DecDec x0)), (1, (AV.val I x1)), (4, (AV.ptr 4 none [])), (5, (AV.val I h0)), (6, (AV.val I h1))] [(4, (Ob.box S_DecDec (AV.val S_DecDec h2)))]
noncomputable def r_ao (x : In_ao) (k : Nat) (p : List Bool) (s : St) : Option Out_ao := rounds (X_ao g_af g_ah g_aj p_aj g_ag p_ag g_ai p_ai) Try.f185 R_ao M_ao x k p s
variable {g_af g_ah g_aj p_aj g_ag p_ag g_ai p_ai}
theorem ev_ao (k : Nat) (x0 : Dm (.imm L_DecDec)) (x1 : Dm (.imm I)) : E_ao g_af g_ah g_aj p_aj g_ag p_ag g_ai p_ai k (x0, x1, ()) =
  (bif (decide ((List.length x0 : Int) = (0 : Int))) then (some (((0 : Int), (0 : Int)), ())) else (bif (decide ((100 : Int) < (List.length x0 : Int))) then (some (((0 : Int), (0 : Int)), ())) else (bif (bif (g_af (x1, ((0 : Int), ((3 : Int), ())))).1 then false else true) then (some (((0 : Int), (0 : Int)), ())) else (r_ao g_af g_ah g_aj p_aj g_ag p_ag g_ai p_ai (x0, x1, ()) k pt2 (h0_ao x0 x1 (0 : Int) (0 : Int) ((0 : Int), (0 : Int))))))) := by kernel_rfl
theorem rd0_ao (k : Nat) (x0 : Dm (.imm L_DecDec)) (x1 : Dm (.imm I)) (h0 : Dn I) (h1 : Dn I) (h2 : Dn S_DecDec) : r_ao g_af g_ah g_aj p_aj g_ag p_ag g_ai p_ai (x0, x1, ()) (k + 1) pt2 (h0_ao x0 x1 h0 h1 h2) =
  (bif (decide (h1 < (List.length x0 : Int))) then (bif (bif (decide ((0 : Int) <= h1)) then (decide (h1 < (List.length x0 : Int))) else false) then (bif (bif (g_ah ((rdL (e := S_DecDec) x0 h1), ())).1 then false else true) then (some (((0 : Int), (0 : Int)), ())) else (bif (bif (decide ((0 : Int) <= h1)) then (decide (h1 < (List.length x0 : Int))) else false) then (bif (p_aj ((rdL (e := S_DecDec) x0 h1), ((3 : Int), ()))) then (r_ao g_af g_ah g_aj p_aj g_ag p_ag g_ai p_ai (x0, x1, ()) k pt2 (h0_ao x0 x1 (w64 (h0 + (g_aj ((rdL (e := S_DecDec) x0 h1), ((3 : Int), ()))).1.1)) (w64 (h1 + (1 : Int))) h2)) else none) else none)) else none) else (bif (p_ag ((w64 ((3 : Int) - x1)), ())) then (bif (p_ai (h0, ((w64 ((List.length x0 : Int) * (g_ag ((w64 ((3 : Int) - x1)), ())).1)), ()))) then (some (((g_ai (h0, ((w64 ((List.length x0 : Int) * (g_ag ((w64 ((3 : Int) - x1)), ())).1)), ()))).1, x1), ())) else none) else none)) := by kernel_rfl
theorem S_ao (h_af : C_af (fun _ => true) g_af) (h_ah : C_ah (fun _ => true) g_ah) (h_aj : C_aj p_aj g_aj) (h_ag : C_ag p_ag g_ag) (h_ai : C_ai p_ai g_ai) {pre : In_ao -> Bool} {fn : In_ao -> Out_ao} (hev : ∀ x, pre x = true -> ∃ k, E_ao g_af g_ah g_aj p_aj g_ag p_ag g_ai p_ai k x = some (fn x)) : C_ao pre fn := sound tysOk mixed (fn := Try.f185) rfl rfl rfl (.cons h_af (.cons h_ah (.cons h_aj (.cons h_ag (.cons h_ai .nil))))) _ hev
end
/-! ap: sl5Tell -/
abbrev M_ap : List Vm.Mode := [.imm S_TstTest]
abbrev R_ap : List (RK × Sh) := [(.imm, S_DecDec)]
abbrev In_ap : Type := (insSh M_ap).den
abbrev Out_ap : Type := (outSh R_ap M_ap).den
abbrev C_ap (pre : In_ap -> Bool) (fn : In_ap -> Out_ap) : Prop := Sound Try.prog 130 ⟨M_ap, R_ap, pre, fn⟩
section
variable (g_aj : In_aj -> Out_aj) (p_aj : In_aj -> Bool) (g_ao : In_ao -> Out_ao) (p_ao : In_ao -> Bool)
abbrev X_ap : Ctx := ctx tys 33 (conOf [(144, ⟨M_aj, R_aj, p_aj, g_aj⟩), (185, ⟨M_ao, R_ao, p_ao, g_ao⟩)]) (keepOf []) (fun _ => [])
noncomputable abbrev E_ap (k : Nat) (x : In_ap) : Option Out_ap := evFn (X_ap g_aj p_aj g_ao p_ao) Try.f130 R_ap M_ap k x
variable {g_aj p_aj g_ao p_ao}
theorem ev_ap (k : Nat) (x0 : Dm (.imm S_TstTest)) : E_ap g_aj p_aj g_ao p_ao k (x0, ()) =
  (bif (decide (x0.2.2.2.1 = (1 : Int))) then (bif (bif (decide ((0 : Int) <= (0 : Int))) then (decide ((0 : Int) < (List.length x0.2.2.2.2 : Int))) else false) then (bif (p_aj ((rdL (e := S_DecDec) x0.2.2.2.2 (0 : Int)), (x0.1.2.2.2, ()))) then (some ((g_aj ((rdL (e := S_DecDec) x0.2.2.2.2 (0 : Int)), (x0.1.2.2.2, ()))).1, ())) else none) else none) else (bif (decide (x0.2.2.2.1 = (2 : Int))) then (bif (fitL [x0.2.2.1] x0.2.2.2.2) then (bif (p_ao ((List.append [x0.2.2.1] x0.2.2.2.2), (x0.1.2.2.2, ()))) then (some ((g_ao ((List.append [x0.2.2.1] x0.2.2.2.2), (x0.1.2.2.2, ()))).1, ())) else none) else none) else (bif (p_aj (x0.2.2.1, (x0.1.2.2.2, ()))) then (some ((g_aj (x0.2.2.1, (x0.1.2.2.2, ()))).1, ())) else none))) := by kernel_rfl
theorem S_ap (h_aj : C_aj p_aj g_aj) (h_ao : C_ao p_ao g_ao) {pre : In_ap -> Bool} {fn : In_ap -> Out_ap} (hev : ∀ x, pre x = true -> ∃ k, E_ap g_aj p_aj g_ao p_ao k x = some (fn x)) : C_ap pre fn := sound tysOk mixed (fn := Try.f130) rfl rfl rfl (.cons h_aj (.cons h_ao .nil)) _ hev
end
/-! aq: sl5Passes -/
abbrev M_aq : List Vm.Mode := [.imm S_TstTest]
abbrev R_aq : List (RK × Sh) := [(.imm, .bool)]
abbrev In_aq : Type := (insSh M_aq).den
abbrev Out_aq : Type := (outSh R_aq M_aq).den
abbrev C_aq (pre : In_aq -> Bool) (fn : In_aq -> Out_aq) : Prop := Sound Try.prog 142 ⟨M_aq, R_aq, pre, fn⟩
section
variable (g_an : In_an -> Out_an) (g_ap : In_ap -> Out_ap) (p_ap : In_ap -> Bool)
abbrev X_aq : Ctx := ctx tys 25 (conOf [(77, ⟨M_an, R_an, fun _ => true, g_an⟩), (130, ⟨M_ap, R_ap, p_ap, g_ap⟩)]) (keepOf [(pt1, (⟨[(1, .asis), (3, .asis)], [(1, .asis)], []⟩ : Keep))]) (fun _ => [])
noncomputable abbrev E_aq (k : Nat) (x : In_aq) : Option Out_aq := evFn (X_aq g_an g_ap p_ap) Try.f142 R_aq M_aq k x
def h0_aq (x0 : Dm (.imm S_TstTest)) (h0 : Dn I) : St := mkS [(1, (AV.ptr 1 none [])), (3, (AV.val I h0))] [(1, (Ob.box S_TstTest (AV.val S_TstTest x0)))]
noncomputable def r_aq (x : In_aq) (k : Nat) (p : List Bool) (s : St) : Option Out_aq := rounds (X_aq g_an g_ap p_ap) Try.f142 R_aq M_aq x k p s
variable {g_an g_ap p_ap}
theorem ev_aq (k : Nat) (x0 : Dm (.imm S_TstTest)) : E_aq g_an g_ap p_ap k (x0, ()) =
  (r_aq g_an g_ap p_ap (x0, ()) k pt1 (h0_aq x0 (0 : Int))) := by kernel_rfl
theorem rd0_aq (k : Nat) (x0 : Dm (.imm S_TstTest)) (h0 : Dn I) : r_aq g_an g_ap p_ap (x0, ()) (k + 1) pt1 (h0_aq x0 h0) =
  (bif (decide (h0 < (List.length x0.2.2.2.2 : Int))) then (bif (bif (decide ((0 : Int) <= h0)) then (decide (h0 < (List.length x0.2.2.2.2 : Int))) else false) then (bif (bif (g_an (x0.1, ((rdL (e := S_DecDec) x0.2.2.2.2 h0), ()))).1 then false else true) then (some (false, ())) else (r_aq g_an g_ap p_ap (x0, ()) k pt1 (h0_aq x0 (w64 (h0 + (1 : Int)))))) else none) else (bif (p_ap (x0, ())) then (some ((g_an (x0.1, ((g_ap (x0, ())).1, ()))).1, ())) else none)) := by kernel_rfl
theorem S_aq (h_an : C_an (fun _ => true) g_an) (h_ap : C_ap p_ap g_ap) {pre : In_aq -> Bool} {fn : In_aq -> Out_aq} (hev : ∀ x, pre x = true -> ∃ k, E_aq g_an g_ap p_ap k x = some (fn x)) : C_aq pre fn := sound tysOk mixed (fn := Try.f142) rfl rfl rfl (.cons h_an (.cons h_ap .nil)) _ hev
end
/-! ar: sl5State -/
abbrev M_ar : List Vm.Mode := [.imm S_TstTest]
abbrev R_ar : List (RK × Sh) := [(.imm, I)]
abbrev In_ar : Type := (insSh M_ar).den
abbrev Out_ar : Type := (outSh R_ar M_ar).den
abbrev C_ar (pre : In_ar -> Bool) (fn : In_ar -> Out_ar) : Prop := Sound Try.prog 73 ⟨M_ar, R_ar, pre, fn⟩
section
variable (g_an : In_an -> Out_an) (g_am : In_am -> Out_am) (g_aq : In_aq -> Out_aq) (p_aq : In_aq -> Bool)
abbrev X_ar : Ctx := ctx tys 33 (conOf [(77, ⟨M_an, R_an, fun _ => true, g_an⟩), (76, ⟨M_am, R_am, fun _ => true, g_am⟩), (142, ⟨M_aq, R_aq, p_aq, g_aq⟩)]) (keepOf []) (fun _ => [])
noncomputable abbrev E_ar (k : Nat) (x : In_ar) : Option Out_ar := evFn (X_ar g_an g_am g_aq p_aq) Try.f73 R_ar M_ar k x
variable {g_an g_am g_aq p_aq}
theorem ev_ar (k : Nat) (x0 : Dm (.imm S_TstTest)) : E_ar g_an g_am g_aq p_aq k (x0, ()) =
  (bif (decide (x0.2.2.2.1 = (0 : Int))) then (bif (g_an (x0.1, (x0.2.2.1, ()))).1 then (some ((3 : Int), ())) else (bif (decide (x0.2.2.2.1 = (0 : Int))) then (some ((1 : Int), ())) else (bif (decide (x0.2.2.2.1 = (3 : Int))) then (some ((4 : Int), ())) else (bif (decide ((List.length x0.2.2.2.2 : Int) < (g_am (x0.2.2.2.1, ())).1)) then (some ((2 : Int), ())) else (bif (p_aq (x0, ())) then (bif (g_aq (x0, ())).1 then (some ((3 : Int), ())) else (some ((4 : Int), ()))) else none))))) else (bif (decide (x0.2.2.2.1 = (0 : Int))) then (some ((1 : Int), ())) else (bif (decide (x0.2.2.2.1 = (3 : Int))) then (some ((4 : Int), ())) else (bif (decide ((List.length x0.2.2.2.2 : Int) < (g_am (x0.2.2.2.1, ())).1)) then (some ((2 : Int), ())) else (bif (p_aq (x0, ())) then (bif (g_aq (x0, ())).1 then (some ((3 : Int), ())) else (some ((4 : Int), ()))) else none))))) := by kernel_rfl
theorem S_ar (h_an : C_an (fun _ => true) g_an) (h_am : C_am (fun _ => true) g_am) (h_aq : C_aq p_aq g_aq) {pre : In_ar -> Bool} {fn : In_ar -> Out_ar} (hev : ∀ x, pre x = true -> ∃ k, E_ar g_an g_am g_aq p_aq k x = some (fn x)) : C_ar pre fn := sound tysOk mixed (fn := Try.f73) rfl rfl rfl (.cons h_an (.cons h_am (.cons h_aq .nil))) _ hev
end
/-! as: sTstOk -/
abbrev M_as : List Vm.Mode := [.imm S_TstTest]
abbrev R_as : List (RK × Sh) := [(.imm, .bool)]
abbrev In_as : Type := (insSh M_as).den
abbrev Out_as : Type := (outSh R_as M_as).den
abbrev C_as (pre : In_as -> Bool) (fn : In_as -> Out_as) : Prop := Sound Try.prog 17 ⟨M_as, R_as, pre, fn⟩
section
variable (g_al : In_al -> Out_al) (g_ah : In_ah -> Out_ah) (g_af : In_af -> Out_af) (g_am : In_am -> Out_am) (g_ar : In_ar -> Out_ar) (p_ar : In_ar -> Bool) (g_an : In_an -> Out_an)
abbrev X_as : Ctx := ctx tys 73 (conOf [(74, ⟨M_al, R_al, fun _ => true, g_al⟩), (18, ⟨M_ah, R_ah, fun _ => true, g_ah⟩), (75, ⟨M_af, R_af, fun _ => true, g_af⟩), (76, ⟨M_am, R_am, fun _ => true, g_am⟩), (73, ⟨M_ar, R_ar, p_ar, g_ar⟩), (77, ⟨M_an, R_an, fun _ => true, g_an⟩)]) (keepOf [(pt0, (⟨[(1, .asis), (3, .asis)], [(1, .asis)], []⟩ : Keep))]) (fun _ => [])
noncomputable abbrev E_as (k : Nat) (x : In_as) : Option Out_as := evFn (X_as g_al g_ah g_af g_am g_ar p_ar g_an) Try.f17 R_as M_as k x
def h0_as (x0 : Dm (.imm S_TstTest)) (h0 : Dn I) : St := mkS [(1, (AV.ptr 1 none [])), (3, (AV.val I h0))] [(1, (Ob.box S_TstTest (AV.val S_TstTest x0)))]
noncomputable def r_as (x : In_as) (k : Nat) (p : List Bool) (s : St) : Option Out_as := rounds (X_as g_al g_ah g_af g_am g_ar p_ar g_an) Try.f17 R_as M_as x k p s
variable {g_al g_ah g_af g_am g_ar p_ar g_an}
theorem ev_as (k : Nat) (x0 : Dm (.imm S_TstTest)) : E_as g_al g_ah g_af g_am g_ar p_ar g_an k (x0, ()) =
  (bif (bif (g_al (x0.1, ())).1 then false else true) then (some (false, ())) else (bif (bif (g_ah (x0.2.2.1, ())).1 then false else true) then (some (false, ())) else (bif (bif (g_af (x0.2.2.2.1, ((0 : Int), ((3 : Int), ())))).1 then false else true) then (some (false, ())) else (bif (decide ((g_am (x0.2.2.2.1, ())).1 < (List.length x0.2.2.2.2 : Int))) then (some (false, ())) else (r_as g_al g_ah g_af g_am g_ar p_ar g_an (x0, ()) k pt0 (h0_as x0 (0 : Int))))))) := by kernel_rfl
theorem rd0_as (k : Nat) (x0 : Dm (.imm S_TstTest)) (h0 : Dn I) : r_as g_al g_ah g_af g_am g_ar p_ar g_an (x0, ()) (k + 1) pt0 (h0_as x0 h0) =
  (bif (decide (h0 < (List.length x0.2.2.2.2 : Int))) then (bif (bif (decide ((0 : Int) <= h0)) then (decide (h0 < (List.length x0.2.2.2.2 : Int))) else false) then (bif (bif (g_ah ((rdL (e := S_DecDec) x0.2.2.2.2 h0), ())).1 then false else true) then (some (false, ())) else (r_as g_al g_ah g_af g_am g_ar p_ar g_an (x0, ()) k pt0 (h0_as x0 (w64 (h0 + (1 : Int)))))) else none) else (bif (decide (x0.2.1 = (0 : Int))) then (bif (Sh.beq S_DecDec x0.2.2.1 ((0 : Int), (0 : Int))) then (some ((decide (x0.2.2.2.1 = (0 : Int))), ())) else (some (false, ()))) else (bif (p_ar (x0, ())) then (bif (decide (x0.2.1 = (g_ar (x0, ())).1)) then (bif (decide (x0.2.2.2.1 = (0 : Int))) then (some (true, ())) else (some ((bif (g_an (x0.1, (x0.2.2.1, ()))).1 then false else true), ()))) else (some (false, ()))) else none))) := by kernel_rfl
theorem S_as (h_al : C_al (fun _ => true) g_al) (h_ah : C_ah (fun _ => true) g_ah) (h_af : C_af (fun _ => true) g_af) (h_am : C_am (fun _ => true) g_am) (h_ar : C_ar p_ar g_ar) (h_an : C_an (fun _ => true) g_an) {pre : In_as -> Bool} {fn : In_as -> Out_as} (hev : ∀ x, pre x = true -> ∃ k, E_as g_al g_ah g_af g_am g_ar p_ar g_an k x = some (fn x)) : C_as pre fn := sound tysOk mixed (fn := Try.f17) rfl rfl rfl (.cons h_al (.cons h_ah (.cons h_af (.cons h_am (.cons h_ar (.cons h_an .nil)))))) _ hev
end
/-! at: sl6Mix -/
abbrev M_at : List Vm.Mode := [.imm I, .imm I]
abbrev R_at : List (RK × Sh) := [(.imm, I)]
abbrev In_at : Type := (insSh M_at).den
abbrev Out_at : Type := (outSh R_at M_at).den
abbrev C_at (pre : In_at -> Bool) (fn : In_at -> Out_at) : Prop := Sound Try.prog 186 ⟨M_at, R_at, pre, fn⟩
abbrev X_at : Ctx := ctx tys 13 (conOf []) (keepOf []) (fun _ => [])
noncomputable abbrev E_at (k : Nat) (x : In_at) : Option Out_at := evFn X_at Try.f186 R_at M_at k x
theorem ev_at (k : Nat) (x0 : Dm (.imm I)) (x1 : Dm (.imm I)) : E_at k (x0, x1, ()) =
  (bif (bif (decide ((999983 : Int) = (0 : Int))) then false else true) then (bif (bif (decide ((999983 : Int) = (0 : Int))) then false else true) then (some ((Int.tmod (w64 ((w64 ((w64 ((w64 (x0 * (8191 : Int))) + (Int.tmod x1 (999983 : Int)))) + (999983 : Int))) + (7 : Int))) (999983 : Int)), ())) else none) else none) := by kernel_rfl
theorem S_at  {pre : In_at -> Bool} {fn : In_at -> Out_at} (hev : ∀ x, pre x = true -> ∃ k, E_at k x = some (fn x)) : C_at pre fn := sound tysOk mixed (fn := Try.f186) rfl rfl rfl ConsOk.nil _ hev
/-! au: sBatMark -/
abbrev M_au : List Vm.Mode := [.imm S_BatBatch]
abbrev R_au : List (RK × Sh) := [(.imm, I)]
abbrev In_au : Type := (insSh M_au).den
abbrev Out_au : Type := (outSh R_au M_au).den
abbrev C_au (pre : In_au -> Bool) (fn : In_au -> Out_au) : Prop := Sound Try.prog 132 ⟨M_au, R_au, pre, fn⟩
section
variable (g_at : In_at -> Out_at)
abbrev X_au : Ctx := ctx tys 79 (conOf [(186, ⟨M_at, R_at, fun _ => true, g_at⟩)]) (keepOf [(pt2, (⟨[(1, .asis), (3, .asis), (7, .asis)], [(1, .asis)], []⟩ : Keep)), (pt6, (⟨[(1, .asis), (3, .asis), (4, .asis), (5, .asis), (6, .asis)], [(1, .asis), (5, .asis)], []⟩ : Keep)), (pt0, (⟨[(1, .asis), (3, .asis), (4, .asis)], [(1, .asis)], []⟩ : Keep))]) (fun _ => [])
noncomputable abbrev E_au (k : Nat) (x : In_au) : Option Out_au := evFn (X_au g_at) Try.f132 R_au M_au k x
def h0_au (x0 : Dm (.imm S_BatBatch)) (h0 : Dn I) (h1 : Dn I) : St := mkS [(1, (AV.ptr 1 none [])), (3, (AV.val I h0)), (4, (AV.val I h1))] [(1, (Ob.box S_BatBatch (AV.val S_BatBatch x0)))]
def h1_au (x0 : Dm (.imm S_BatBatch)) (h0 : Dn I) (h1 : Dn I) (h2 : Dn I) (h3 : Dn S_TstTest) : St := mkS [(1, (AV.ptr 1 none [])), (3, (AV.val I h0)), (4, (AV.val I h1)), (5, (AV.ptr 5 none [])), (6, (AV.val I h2))] [(1, (Ob.box S_BatBatch (AV.val S_BatBatch x0))), (5, (Ob.box S_TstTest (AV.val S_TstTest h3)))]
def h2_au (x0 : Dm (.imm S_BatBatch)) (h0 : Dn I) (h1 : Dn I) : St := mkS [(1, (AV.ptr 1 none [])), (3, (AV.val I h0)), (7, (AV.val I h1))] [(1, (Ob.box S_BatBatch (AV.val S_BatBatch x0)))]
noncomputable def r_au (x : In_au) (k : Nat) (p : List Bool) (s : St) : Option Out_au := rounds (X_au g_at) Try.f132 R_au M_au x k p s
variable {g_at}
theorem ev_au (k : Nat) (x0 : Dm (.imm S_BatBatch)) : E_au g_at k (x0, ()) =
  (r_au g_at (x0, ()) k pt0 (h0_au x0 ((g_at ((1 : Int), (x0.1, ()))).1) (0 : Int))) := by kernel_rfl
theorem rd0_au (k : Nat) (x0 : Dm (.imm S_BatBatch)) (h0 : Dn I) (h1 : Dn I) : r_au g_at (x0, ()) (k + 1) pt0 (h0_au x0 h0 h1) =
  (bif (decide (h1 < (List.length x0.2.2.1 : Int))) then (bif (bif (decide ((0 : Int) <= h1)) then (decide (h1 < (List.length x0.2.2.1 : Int))) else false) then (r_au g_at (x0, ()) k pt6 (h1_au x0 ((g_at ((g_at ((g_at ((g_at (h0, ((rdL (e := S_TstTest) x0.2.2.1 h1).2.1, ()))).1, ((rdL (e := S_TstTest) x0.2.2.1 h1).2.2.1.1, ()))).1, ((rdL (e := S_TstTest) x0.2.2.1 h1).2.2.1.2, ()))).1, ((rdL (e := S_TstTest) x0.2.2.1 h1).2.2.2.1, ()))).1) h1 (0 : Int) (rdL (e := S_TstTest) x0.2.2.1 h1))) else none) else (r_au g_at (x0, ()) k pt2 (h2_au x0 h0 (0 : Int)))) := by kernel_rfl
theorem rd1_au (k : Nat) (x0 : Dm (.imm S_BatBatch)) (h0 : Dn I) (h1 : Dn I) (h2 : Dn I) (h3 : Dn S_TstTest) : r_au g_at (x0, ()) (k + 1) pt6 (h1_au x0 h0 h1 h2 h3) =
  (bif (decide (h2 < (List.length h3.2.2.2.2 : Int))) then (bif (bif (decide ((0 : Int) <= h2)) then (decide (h2 < (List.length h3.2.2.2.2 : Int))) else false) then (bif (bif (decide ((0 : Int) <= h2)) then (decide (h2 < (List.length h3.2.2.2.2 : Int))) else false) then (r_au g_at (x0, ()) k pt6 (h1_au x0 ((g_at ((g_at (h0, ((rdL (e := S_DecDec) h3.2.2.2.2 h2).1, ()))).1, ((rdL (e := S_DecDec) h3.2.2.2.2 h2).2, ()))).1) h1 (w64 (h2 + (1 : Int))) h3)) else none) else none) else (r_au g_at (x0, ()) k pt0 (h0_au x0 h0 (w64 (h1 + (1 : Int)))))) := by kernel_rfl
theorem rd2_au (k : Nat) (x0 : Dm (.imm S_BatBatch)) (h0 : Dn I) (h1 : Dn I) : r_au g_at (x0, ()) (k + 1) pt2 (h2_au x0 h0 h1) =
  (bif (decide (h1 < (List.length x0.2.2.2.2.2 : Int))) then (bif (bif (decide ((0 : Int) <= h1)) then (decide (h1 < (List.length x0.2.2.2.2.2 : Int))) else false) then (bif (rdL (e := Sh.bool) x0.2.2.2.2.2 h1) then (r_au g_at (x0, ()) k pt2 (h2_au x0 ((g_at ((g_at (h0, ((w64 (h1 + (1 : Int))), ()))).1, ((77 : Int), ()))).1) (w64 (h1 + (1 : Int))))) else (r_au g_at (x0, ()) k pt2 (h2_au x0 ((g_at (h0, ((w64 (h1 + (1 : Int))), ()))).1) (w64 (h1 + (1 : Int)))))) else none) else (some (h0, ()))) := by kernel_rfl
theorem S_au (h_at : C_at (fun _ => true) g_at) {pre : In_au -> Bool} {fn : In_au -> Out_au} (hev : ∀ x, pre x = true -> ∃ k, E_au g_at k x = some (fn x)) : C_au pre fn := sound tysOk mixed (fn := Try.f132) rfl rfl rfl (.cons h_at .nil) _ hev
end
/-! av: sBatSigned -/
abbrev M_av : List Vm.Mode := [.imm S_BatBatch, .imm I, .imm I]
abbrev R_av : List (RK × Sh) := [(.imm, I)]
abbrev In_av : Type := (insSh M_av).den
abbrev Out_av : Type := (outSh R_av M_av).den
abbrev C_av (pre : In_av -> Bool) (fn : In_av -> Out_av) : Prop := Sound Try.prog 131 ⟨M_av, R_av, pre, fn⟩
section
variable (g_au : In_au -> Out_au) (p_au : In_au -> Bool)
abbrev X_av : Ctx := ctx tys 50 (conOf [(132, ⟨M_au, R_au, p_au, g_au⟩)]) (keepOf [(pt1, (⟨[(1, .asis), (2, .asis), (3, .asis), (7, .asis)], [(3, .asis)], []⟩ : Keep))]) (fun _ => [])
noncomputable abbrev E_av (k : Nat) (x : In_av) : Option Out_av := evFn (X_av g_au p_au) Try.f131 R_av M_av k x
def h0_av (x0 : Dm (.imm S_BatBatch)) (x1 : Dm (.imm I)) (x2 : Dm (.imm I)) (h0 : Dn I) : St := mkS [(1, (AV.val I x1)), (2, (AV.val I x2)), (3, (AV.ptr 3 none [])), (7, (AV.val I h0))] [(3, (Ob.box S_BatBatch (AV.val S_BatBatch x0)))]
noncomputable def r_av (x : In_av) (k : Nat) (p : List Bool) (s : St) : Option Out_av := rounds (X_av g_au p_au) Try.f131 R_av M_av x k p s
variable {g_au p_au}
theorem ev_av (k : Nat) (x0 : Dm (.imm S_BatBatch)) (x1 : Dm (.imm I)) (x2 : Dm (.imm I)) : E_av g_au p_au k (x0, x1, x2, ()) =
  (r_av g_au p_au (x0, x1, x2, ()) k pt1 (h0_av x0 x1 x2 (0 : Int))) := by kernel_rfl
theorem rd0_av (k : Nat) (x0 : Dm (.imm S_BatBatch)) (x1 : Dm (.imm I)) (x2 : Dm (.imm I)) (h0 : Dn I) : r_av g_au p_au (x0, x1, x2, ()) (k + 1) pt1 (h0_av x0 x1 x2 h0) =
  (bif (decide (h0 < (List.length x0.2.2.2.2.1 : Int))) then (bif (bif (decide ((0 : Int) <= h0)) then (decide (h0 < (List.length x0.2.2.2.2.1 : Int))) else false) then (bif (decide ((rdL (e := S_DayDay) x0.2.2.2.2.1 h0).2.1 = x1)) then (bif (bif (decide ((0 : Int) <= h0)) then (decide (h0 < (List.length x0.2.2.2.2.1 : Int))) else false) then (bif (bif (decide ((rdL (e := S_DayDay) x0.2.2.2.2.1 h0).1 = x2)) then false else true) then (bif (bif (decide ((0 : Int) <= h0)) then (decide (h0 < (List.length x0.2.2.2.2.1 : Int))) else false) then (cl (p_au (x0, ())) (g_au (x0, ())) fun y0 => (bif (decide ((rdL (e := S_DayDay) x0.2.2.2.2.1 h0).2.2 = y0.1)) then (bif (bif (decide ((0 : Int) <= h0)) then (decide (h0 < (List.length x0.2.2.2.2.1 : Int))) else false) then (some ((rdL (e := S_DayDay) x0.2.2.2.2.1 h0).1, ())) else none) else (r_av g_au p_au (x0, x1, x2, ()) k pt1 (h0_av x0 x1 x2 (w64 (h0 + (1 : Int))))))) else none) else (r_av g_au p_au (x0, x1, x2, ()) k pt1 (h0_av x0 x1 x2 (w64 (h0 + (1 : Int)))))) else none) else (r_av g_au p_au (x0, x1, x2, ()) k pt1 (h0_av x0 x1 x2 (w64 (h0 + (1 : Int)))))) else none) else (some ((0 : Int), ()))) := by kernel_rfl
theorem S_av (h_au : C_au p_au g_au) {pre : In_av -> Bool} {fn : In_av -> Out_av} (hev : ∀ x, pre x = true -> ∃ k, E_av g_au p_au k x = some (fn x)) : C_av pre fn := sound tysOk mixed (fn := Try.f131) rfl rfl rfl (.cons h_au .nil) _ hev
end
/-! aw: sl6Hands -/
abbrev M_aw : List Vm.Mode := [.imm S_BatBatch]
abbrev R_aw : List (RK × Sh) := [(.imm, .bool)]
abbrev In_aw : Type := (insSh M_aw).den
abbrev Out_aw : Type := (outSh R_aw M_aw).den
abbrev C_aw (pre : In_aw -> Bool) (fn : In_aw -> Out_aw) : Prop := Sound Try.prog 158 ⟨M_aw, R_aw, pre, fn⟩
section
variable (g_au : In_au -> Out_au) (p_au : In_au -> Bool) (g_av : In_av -> Out_av) (p_av : In_av -> Bool)
abbrev X_aw : Ctx := ctx tys 44 (conOf [(132, ⟨M_au, R_au, p_au, g_au⟩), (131, ⟨M_av, R_av, p_av, g_av⟩)]) (keepOf [(pt5, (⟨[(1, .asis), (3, .asis), (4, .asis)], [(1, .asis)], []⟩ : Keep)), (pt1, (⟨[(1, .asis), (3, .asis)], [(1, .asis)], []⟩ : Keep))]) (fun _ => [])
noncomputable abbrev E_aw (k : Nat) (x : In_aw) : Option Out_aw := evFn (X_aw g_au p_au g_av p_av) Try.f158 R_aw M_aw k x
def h0_aw (x0 : Dm (.imm S_BatBatch)) (h0 : Dn I) : St := mkS [(1, (AV.ptr 1 none [])), (3, (AV.val I h0))] [(1, (Ob.box S_BatBatch (AV.val S_BatBatch x0)))]
def h1_aw (x0 : Dm (.imm S_BatBatch)) (h0 : Dn I) (h1 : Dn I) : St := mkS [(1, (AV.ptr 1 none [])), (3, (AV.val I h0)), (4, (AV.val I h1))] [(1, (Ob.box S_BatBatch (AV.val S_BatBatch x0)))]
noncomputable def r_aw (x : In_aw) (k : Nat) (p : List Bool) (s : St) : Option Out_aw := rounds (X_aw g_au p_au g_av p_av) Try.f158 R_aw M_aw x k p s
variable {g_au p_au g_av p_av}
theorem ev_aw (k : Nat) (x0 : Dm (.imm S_BatBatch)) : E_aw g_au p_au g_av p_av k (x0, ()) =
  (r_aw g_au p_au g_av p_av (x0, ()) k pt1 (h0_aw x0 (1 : Int))) := by kernel_rfl
theorem rd0_aw (k : Nat) (x0 : Dm (.imm S_BatBatch)) (h0 : Dn I) : r_aw g_au p_au g_av p_av (x0, ()) (k + 1) pt1 (h0_aw x0 h0) =
  (bif (decide (h0 <= (5 : Int))) then (r_aw g_au p_au g_av p_av (x0, ()) k pt5 (h1_aw x0 h0 (0 : Int))) else (some (false, ()))) := by kernel_rfl
theorem rd1_aw (k : Nat) (x0 : Dm (.imm S_BatBatch)) (h0 : Dn I) (h1 : Dn I) : r_aw g_au p_au g_av p_av (x0, ()) (k + 1) pt5 (h1_aw x0 h0 h1) =
  (bif (decide (h1 < (List.length x0.2.2.2.2.1 : Int))) then (bif (bif (decide ((0 : Int) <= h1)) then (decide (h1 < (List.length x0.2.2.2.2.1 : Int))) else false) then (bif (decide ((rdL (e := S_DayDay) x0.2.2.2.2.1 h1).1 = h0)) then (bif (decide ((rdL (e := S_DayDay) x0.2.2.2.2.1 h1).2.1 = (2 : Int))) then (cl (p_au (x0, ())) (g_au (x0, ())) fun y0 => (bif (decide ((rdL (e := S_DayDay) x0.2.2.2.2.1 h1).2.2 = y0.1)) then (cl (p_av (x0, ((3 : Int), (h0, ())))) (g_av (x0, ((3 : Int), (h0, ())))) fun y1 => (bif (decide ((0 : Int) < y1.1)) then (some (true, ())) else (r_aw g_au p_au g_av p_av (x0, ()) k pt5 (h1_aw x0 h0 (w64 (h1 + (1 : Int))))))) else (r_aw g_au p_au g_av p_av (x0, ()) k pt5 (h1_aw x0 h0 (w64 (h1 + (1 : Int))))))) else (r_aw g_au p_au g_av p_av (x0, ()) k pt5 (h1_aw x0 h0 (w64 (h1 + (1 : Int)))))) else (r_aw g_au p_au g_av p_av (x0, ()) k pt5 (h1_aw x0 h0 (w64 (h1 + (1 : Int)))))) else none) else (r_aw g_au p_au g_av p_av (x0, ()) k pt1 (h0_aw x0 (w64 (h0 + (1 : Int)))))) := by kernel_rfl
theorem S_aw (h_au : C_au p_au g_au) (h_av : C_av p_av g_av) {pre : In_aw -> Bool} {fn : In_aw -> Out_aw} (hev : ∀ x, pre x = true -> ∃ k, E_aw g_au p_au g_av p_av k x = some (fn x)) : C_aw pre fn := sound tysOk mixed (fn := Try.f158) rfl rfl rfl (.cons h_au (.cons h_av .nil)) _ hev
end
/-! ax: sl6Gate -/
abbrev M_ax : List Vm.Mode := [.imm S_BatBatch]
abbrev R_ax : List (RK × Sh) := [(.imm, .bool)]
abbrev In_ax : Type := (insSh M_ax).den
abbrev Out_ax : Type := (outSh R_ax M_ax).den
abbrev C_ax (pre : In_ax -> Bool) (fn : In_ax -> Out_ax) : Prop := Sound Try.prog 107 ⟨M_ax, R_ax, pre, fn⟩
section
variable (g_aw : In_aw -> Out_aw) (p_aw : In_aw -> Bool)
abbrev X_ax : Ctx := ctx tys 33 (conOf [(158, ⟨M_aw, R_aw, p_aw, g_aw⟩)]) (keepOf [(pt0, (⟨[(1, .asis), (4, .asis)], [(1, .asis)], []⟩ : Keep)), (pt1, (⟨[(1, .asis), (3, .asis)], [(1, .asis)], []⟩ : Keep))]) (fun _ => [])
noncomputable abbrev E_ax (k : Nat) (x : In_ax) : Option Out_ax := evFn (X_ax g_aw p_aw) Try.f107 R_ax M_ax k x
def h0_ax (x0 : Dm (.imm S_BatBatch)) (h0 : Dn I) : St := mkS [(1, (AV.ptr 1 none [])), (3, (AV.val I h0))] [(1, (Ob.box S_BatBatch (AV.val S_BatBatch x0)))]
def h1_ax (x0 : Dm (.imm S_BatBatch)) (h0 : Dn I) : St := mkS [(1, (AV.ptr 1 none [])), (4, (AV.val I h0))] [(1, (Ob.box S_BatBatch (AV.val S_BatBatch x0)))]
noncomputable def r_ax (x : In_ax) (k : Nat) (p : List Bool) (s : St) : Option Out_ax := rounds (X_ax g_aw p_aw) Try.f107 R_ax M_ax x k p s
variable {g_aw p_aw}
theorem ev_ax (k : Nat) (x0 : Dm (.imm S_BatBatch)) : E_ax g_aw p_aw k (x0, ()) =
  (r_ax g_aw p_aw (x0, ()) k pt1 (h0_ax x0 (0 : Int))) := by kernel_rfl
theorem rd0_ax (k : Nat) (x0 : Dm (.imm S_BatBatch)) (h0 : Dn I) : r_ax g_aw p_aw (x0, ()) (k + 1) pt1 (h0_ax x0 h0) =
  (bif (decide (h0 < (List.length x0.2.2.1 : Int))) then (bif (bif (decide ((0 : Int) <= h0)) then (decide (h0 < (List.length x0.2.2.1 : Int))) else false) then (bif (bif (decide ((rdL (e := S_TstTest) x0.2.2.1 h0).2.1 = (3 : Int))) then false else true) then (some (false, ())) else (r_ax g_aw p_aw (x0, ()) k pt1 (h0_ax x0 (w64 (h0 + (1 : Int)))))) else none) else (r_ax g_aw p_aw (x0, ()) k pt0 (h1_ax x0 (0 : Int)))) := by kernel_rfl
theorem rd1_ax (k : Nat) (x0 : Dm (.imm S_BatBatch)) (h0 : Dn I) : r_ax g_aw p_aw (x0, ()) (k + 1) pt0 (h1_ax x0 h0) =
  (bif (decide (h0 < (List.length x0.2.2.2.2.2 : Int))) then (bif (bif (decide ((0 : Int) <= h0)) then (decide (h0 < (List.length x0.2.2.2.2.2 : Int))) else false) then (bif (rdL (e := Sh.bool) x0.2.2.2.2.2 h0) then (some (false, ())) else (r_ax g_aw p_aw (x0, ()) k pt0 (h1_ax x0 (w64 (h0 + (1 : Int)))))) else none) else (cl (p_aw (x0, ())) (g_aw (x0, ())) fun y0 => (some (y0.1, ())))) := by kernel_rfl
theorem S_ax (h_aw : C_aw p_aw g_aw) {pre : In_ax -> Bool} {fn : In_ax -> Out_ax} (hev : ∀ x, pre x = true -> ∃ k, E_ax g_aw p_aw k x = some (fn x)) : C_ax pre fn := sound tysOk mixed (fn := Try.f107) rfl rfl rfl (.cons h_aw .nil) _ hev
end
/-! ay: sBatOk -/
abbrev M_ay : List Vm.Mode := [.imm S_BatBatch]
abbrev R_ay : List (RK × Sh) := [(.imm, .bool)]
abbrev In_ay : Type := (insSh M_ay).den
abbrev Out_ay : Type := (outSh R_ay M_ay).den
abbrev C_ay (pre : In_ay -> Bool) (fn : In_ay -> Out_ay) : Prop := Sound Try.prog 41 ⟨M_ay, R_ay, pre, fn⟩
section
variable (g_af : In_af -> Out_af) (g_as : In_as -> Out_as) (g_ax : In_ax -> Out_ax) (p_ax : In_ax -> Bool)
abbrev X_ay : Ctx := ctx tys 121 (conOf [(75, ⟨M_af, R_af, fun _ => true, g_af⟩), (17, ⟨M_as, R_as, fun _ => true, g_as⟩), (107, ⟨M_ax, R_ax, p_ax, g_ax⟩)]) (keepOf [(pt2, (⟨[(1, .asis), (4, .asis)], [(1, .asis)], []⟩ : Keep)), (pt0, (⟨[(1, .asis), (3, .asis)], [(1, .asis)], []⟩ : Keep))]) (fun _ => [])
noncomputable abbrev E_ay (k : Nat) (x : In_ay) : Option Out_ay := evFn (X_ay g_af g_as g_ax p_ax) Try.f41 R_ay M_ay k x
def h0_ay (x0 : Dm (.imm S_BatBatch)) (h0 : Dn I) : St := mkS [(1, (AV.ptr 1 none [])), (3, (AV.val I h0))] [(1, (Ob.box S_BatBatch (AV.val S_BatBatch x0)))]
def h1_ay (x0 : Dm (.imm S_BatBatch)) (h0 : Dn I) : St := mkS [(1, (AV.ptr 1 none [])), (4, (AV.val I h0))] [(1, (Ob.box S_BatBatch (AV.val S_BatBatch x0)))]
noncomputable def r_ay (x : In_ay) (k : Nat) (p : List Bool) (s : St) : Option Out_ay := rounds (X_ay g_af g_as g_ax p_ax) Try.f41 R_ay M_ay x k p s
variable {g_af g_as g_ax p_ax}
theorem ev_ay (k : Nat) (x0 : Dm (.imm S_BatBatch)) : E_ay g_af g_as g_ax p_ax k (x0, ()) =
  (bif (bif (g_af (x0.1, ((0 : Int), ((5 : Int), ())))).1 then false else true) then (some (false, ())) else (bif (bif (g_af (x0.2.1, ((1 : Int), ((10000 : Int), ())))).1 then false else true) then (some (false, ())) else (bif (bif (g_af ((List.length x0.2.2.1 : Int), ((1 : Int), ((4 : Int), ())))).1 then false else true) then (some (false, ())) else (bif (bif (g_af (x0.2.2.2.1, ((1 : Int), ((4 : Int), ())))).1 then false else true) then (some (false, ())) else (bif (decide ((6 : Int) < (List.length x0.2.2.2.2.1 : Int))) then (some (false, ())) else (bif (decide ((3 : Int) < (List.length x0.2.2.2.2.2 : Int))) then (some (false, ())) else (r_ay g_af g_as g_ax p_ax (x0, ()) k pt0 (h0_ay x0 (0 : Int))))))))) := by kernel_rfl
theorem rd0_ay (k : Nat) (x0 : Dm (.imm S_BatBatch)) (h0 : Dn I) : r_ay g_af g_as g_ax p_ax (x0, ()) (k + 1) pt0 (h0_ay x0 h0) =
  (bif (decide (h0 < (List.length x0.2.2.1 : Int))) then (bif (bif (decide ((0 : Int) <= h0)) then (decide (h0 < (List.length x0.2.2.1 : Int))) else false) then (bif (bif (g_as ((rdL (e := S_TstTest) x0.2.2.1 h0), ())).1 then false else true) then (some (false, ())) else (bif (decide ((0 : Int) < h0)) then (bif (bif (decide ((0 : Int) <= (w64 (h0 - (1 : Int))))) then (decide ((w64 (h0 - (1 : Int))) < (List.length x0.2.2.1 : Int))) else false) then (bif (bif (decide ((0 : Int) <= h0)) then (decide (h0 < (List.length x0.2.2.1 : Int))) else false) then (bif (decide ((rdL (e := S_TstTest) x0.2.2.1 h0).1.1 <= (rdL (e := S_TstTest) x0.2.2.1 (w64 (h0 - (1 : Int)))).1.1)) then (some (false, ())) else (r_ay g_af g_as g_ax p_ax (x0, ()) k pt0 (h0_ay x0 (w64 (h0 + (1 : Int)))))) else none) else none) else (r_ay g_af g_as g_ax p_ax (x0, ()) k pt0 (h0_ay x0 (w64 (h0 + (1 : Int))))))) else none) else (r_ay g_af g_as g_ax p_ax (x0, ()) k pt2 (h1_ay x0 (0 : Int)))) := by kernel_rfl
theorem rd1_ay (k : Nat) (x0 : Dm (.imm S_BatBatch)) (h0 : Dn I) : r_ay g_af g_as g_ax p_ax (x0, ()) (k + 1) pt2 (h1_ay x0 h0) =
  (bif (decide (h0 < (List.length x0.2.2.2.2.1 : Int))) then (bif (bif (decide ((0 : Int) <= h0)) then (decide (h0 < (List.length x0.2.2.2.2.1 : Int))) else false) then (bif (bif (g_af ((rdL (e := S_DayDay) x0.2.2.2.2.1 h0).1, ((1 : Int), ((5 : Int), ())))).1 then false else true) then (some (false, ())) else (bif (bif (decide ((rdL (e := S_DayDay) x0.2.2.2.2.1 h0).2.1 = (2 : Int))) then false else true) then (bif (bif (decide ((rdL (e := S_DayDay) x0.2.2.2.2.1 h0).2.1 = (3 : Int))) then false else true) then (some (false, ())) else (bif (bif (g_af ((rdL (e := S_DayDay) x0.2.2.2.2.1 h0).2.2, ((0 : Int), ((999982 : Int), ())))).1 then false else true) then (some (false, ())) else (r_ay g_af g_as g_ax p_ax (x0, ()) k pt2 (h1_ay x0 (w64 (h0 + (1 : Int))))))) else (bif (bif (g_af ((rdL (e := S_DayDay) x0.2.2.2.2.1 h0).2.2, ((0 : Int), ((999982 : Int), ())))).1 then false else true) then (some (false, ())) else (r_ay g_af g_as g_ax p_ax (x0, ()) k pt2 (h1_ay x0 (w64 (h0 + (1 : Int)))))))) else none) else (bif (bif (decide (x0.2.2.2.1 = (2 : Int))) then false else true) then (bif (bif (decide (x0.2.2.2.1 = (4 : Int))) then false else true) then (some (true, ())) else (cl (p_ax (x0, ())) (g_ax (x0, ())) fun y0 => (some (y0.1, ())))) else (cl (p_ax (x0, ())) (g_ax (x0, ())) fun y1 => (some (y1.1, ()))))) := by kernel_rfl
theorem S_ay (h_af : C_af (fun _ => true) g_af) (h_as : C_as (fun _ => true) g_as) (h_ax : C_ax p_ax g_ax) {pre : In_ay -> Bool} {fn : In_ay -> Out_ay} (hev : ∀ x, pre x = true -> ∃ k, E_ay g_af g_as g_ax p_ax k x = some (fn x)) : C_ay pre fn := sound tysOk mixed (fn := Try.f41) rfl rfl rfl (.cons h_af (.cons h_as (.cons h_ax .nil))) _ hev
end
/-! az: sCerOf -/
abbrev M_az : List Vm.Mode := [.imm S_BatBatch]
abbrev R_az : List (RK × Sh) := [(.own, S_CerCer), (.imm, .bool)]
abbrev In_az : Type := (insSh M_az).den
abbrev Out_az : Type := (outSh R_az M_az).den
abbrev C_az (pre : In_az -> Bool) (fn : In_az -> Out_az) : Prop := Sound Try.prog 57 ⟨M_az, R_az, pre, fn⟩
section
variable (g_ay : In_ay -> Out_ay) (p_ay : In_ay -> Bool) (g_ap : In_ap -> Out_ap) (p_ap : In_ap -> Bool) (g_av : In_av -> Out_av) (p_av : In_av -> Bool) (g_au : In_au -> Out_au) (p_au : In_au -> Bool)
abbrev X_az : Ctx := ctx tys 100 (conOf [(41, ⟨M_ay, R_ay, p_ay, g_ay⟩), (130, ⟨M_ap, R_ap, p_ap, g_ap⟩), (131, ⟨M_av, R_av, p_av, g_av⟩), (132, ⟨M_au, R_au, p_au, g_au⟩)]) (keepOf [(pt4, (⟨[(1, .asis), (2, .asis), (4, .asis), (6, .asis), (7, .asis)], [(1, .asis), (2, (.pair .asis (.pair .own (.pair .own .asis)))), (4, (.pair .asis (.pair .own (.pair .own .asis))))], []⟩ : Keep)), (pt7, (⟨[(1, .asis), (2, .asis), (4, .asis), (6, .asis)], [(1, .asis), (2, (.pair .asis (.pair .own (.pair .own .asis)))), (4, (.pair .asis (.pair .own (.pair .own .asis))))], []⟩ : Keep)), (pt2, (⟨[(1, .asis), (2, .asis), (4, .asis), (5, .asis)], [(1, .asis), (2, (.pair .asis (.pair .own (.pair .own .asis)))), (4, (.pair .asis (.pair .own (.pair .own .asis))))], []⟩ : Keep))]) (fun _ => [])
noncomputable abbrev E_az (k : Nat) (x : In_az) : Option Out_az := evFn (X_az g_ay p_ay g_ap p_ap g_av p_av g_au p_au) Try.f57 R_az M_az k x
def h0_az (x0 : Dm (.imm S_BatBatch)) (h0 : Dn I) (h1 : Dn I) (h2 : Dn S_DecDec) (h3 : (List (Dn S_SpcTest))) (h4 : (List (Dn S_DecDec))) (h5 : Dn S_DecDec) (h6 : (List (Dn S_SpcTest))) (h7 : (List (Dn S_DecDec))) : St := mkS [(1, (AV.ptr 1 none [])), (2, (AV.ptr 2 none [])), (4, (AV.ptr 4 none [])), (5, (AV.val I h0))] [(1, (Ob.box S_BatBatch (AV.val S_BatBatch x0))), (2, (Ob.box S_CerCer (AV.pair (AV.val I h1) (AV.pair (AV.sref 2502 none []) (AV.pair (AV.sref 12502 none []) (AV.val S_DecDec h2)))))), (2502, (Ob.arr 26 S_SpcTest h3)), (12502, (Ob.arr 24 S_DecDec h4)), (4, (Ob.box S_CerCer (AV.pair (AV.val I x0.1) (AV.pair (AV.sref 2504 none []) (AV.pair (AV.sref 12504 none []) (AV.val S_DecDec h5)))))), (2504, (Ob.arr 26 S_SpcTest h6)), (12504, (Ob.arr 24 S_DecDec h7))]
def h1_az (x0 : Dm (.imm S_BatBatch)) (h0 : Dn I) (h1 : Dn I) (h2 : Dn S_DecDec) (h3 : (List (Dn S_SpcTest))) (h4 : (List (Dn S_DecDec))) (h5 : Dn S_DecDec) (h6 : (List (Dn S_SpcTest))) (h7 : (List (Dn S_DecDec))) : St := mkS [(1, (AV.ptr 1 none [])), (2, (AV.ptr 2 none [])), (4, (AV.ptr 4 none [])), (6, (AV.val I h0))] [(1, (Ob.box S_BatBatch (AV.val S_BatBatch x0))), (2, (Ob.box S_CerCer (AV.pair (AV.val I h1) (AV.pair (AV.sref 2502 none []) (AV.pair (AV.sref 12502 none []) (AV.val S_DecDec h2)))))), (2502, (Ob.arr 26 S_SpcTest h3)), (12502, (Ob.arr 24 S_DecDec h4)), (4, (Ob.box S_CerCer (AV.pair (AV.val I x0.1) (AV.pair (AV.sref 2504 none []) (AV.pair (AV.sref 12504 none []) (AV.val S_DecDec h5)))))), (2504, (Ob.arr 26 S_SpcTest h6)), (12504, (Ob.arr 24 S_DecDec h7))]
def h2_az (x0 : Dm (.imm S_BatBatch)) (h0 : Dn I) (h1 : Dn I) (h2 : Dn I) (h3 : Dn S_DecDec) (h4 : (List (Dn S_SpcTest))) (h5 : (List (Dn S_DecDec))) (h6 : Dn S_DecDec) (h7 : (List (Dn S_SpcTest))) (h8 : (List (Dn S_DecDec))) : St := mkS [(1, (AV.ptr 1 none [])), (2, (AV.ptr 2 none [])), (4, (AV.ptr 4 none [])), (6, (AV.val I h0)), (7, (AV.val I h1))] [(1, (Ob.box S_BatBatch (AV.val S_BatBatch x0))), (2, (Ob.box S_CerCer (AV.pair (AV.val I h2) (AV.pair (AV.sref 2502 none []) (AV.pair (AV.sref 12502 none []) (AV.val S_DecDec h3)))))), (2502, (Ob.arr 26 S_SpcTest h4)), (12502, (Ob.arr 24 S_DecDec h5)), (4, (Ob.box S_CerCer (AV.pair (AV.val I x0.1) (AV.pair (AV.sref 2504 none []) (AV.pair (AV.sref 12504 none []) (AV.val S_DecDec h6)))))), (2504, (Ob.arr 26 S_SpcTest h7)), (12504, (Ob.arr 24 S_DecDec h8))]
noncomputable def r_az (x : In_az) (k : Nat) (p : List Bool) (s : St) : Option Out_az := rounds (X_az g_ay p_ay g_ap p_ap g_av p_av g_au p_au) Try.f57 R_az M_az x k p s
variable {g_ay p_ay g_ap p_ap g_av p_av g_au p_au}
theorem ev_az (k : Nat) (x0 : Dm (.imm S_BatBatch)) : E_az g_ay p_ay g_ap p_ap g_av p_av g_au p_au k (x0, ()) =
  (cl (p_ay (x0, ())) (g_ay (x0, ())) fun y0 => (bif (bif y0.1 then false else true) then (some (((0 : Int), ([], ([], ((0 : Int), (0 : Int))))), (false, ()))) else (bif (bif (decide (x0.2.2.2.1 = (2 : Int))) then false else true) then (bif (bif (decide (x0.2.2.2.1 = (4 : Int))) then false else true) then (some (((0 : Int), ([], ([], ((0 : Int), (0 : Int))))), (false, ()))) else (r_az g_ay p_ay g_ap p_ap g_av p_av g_au p_au (x0, ()) k pt2 (h0_az x0 (0 : Int) (0 : Int) ((0 : Int), (0 : Int)) [] [] ((0 : Int), (0 : Int)) [] []))) else (r_az g_ay p_ay g_ap p_ap g_av p_av g_au p_au (x0, ()) k pt2 (h0_az x0 (0 : Int) (0 : Int) ((0 : Int), (0 : Int)) [] [] ((0 : Int), (0 : Int)) [] []))))) := by kernel_rfl
theorem rd0_az (k : Nat) (x0 : Dm (.imm S_BatBatch)) (h0 : Dn I) (h1 : Dn I) (h2 : Dn S_DecDec) (h3 : (List (Dn S_SpcTest))) (h4 : (List (Dn S_DecDec))) (h5 : Dn S_DecDec) (h6 : (List (Dn S_SpcTest))) (h7 : (List (Dn S_DecDec))) : r_az g_ay p_ay g_ap p_ap g_av p_av g_au p_au (x0, ()) (k + 1) pt2 (h0_az x0 h0 h1 h2 h3 h4 h5 h6 h7) =
  (bif (decide (h0 < (List.length x0.2.2.1 : Int))) then (bif (bif (decide ((0 : Int) <= h0)) then (decide (h0 < (List.length x0.2.2.1 : Int))) else false) then (bif (fitL h6 [((rdL (e := S_TstTest) x0.2.2.1 h0).1)]) then (bif (bif (decide ((0 : Int) <= h0)) then (decide (h0 < (List.length x0.2.2.1 : Int))) else false) then (cl (p_ap ((rdL (e := S_TstTest) x0.2.2.1 h0), ())) (g_ap ((rdL (e := S_TstTest) x0.2.2.1 h0), ())) fun y0 => (bif (fitL h7 [(y0.1)]) then (r_az g_ay p_ay g_ap p_ap g_av p_av g_au p_au (x0, ()) k pt2 (h0_az x0 (w64 (h0 + (1 : Int))) h1 h2 h3 h4 h5 (List.append h6 [((rdL (e := S_TstTest) x0.2.2.1 h0).1)]) (List.append h7 [(y0.1)]))) else none)) else none) else none) else none) else (r_az g_ay p_ay g_ap p_ap g_av p_av g_au p_au (x0, ()) k pt7 (h1_az x0 (5 : Int) h1 h2 h3 h4 h5 h6 h7))) := by kernel_rfl
theorem rd1_az (k : Nat) (x0 : Dm (.imm S_BatBatch)) (h0 : Dn I) (h1 : Dn I) (h2 : Dn S_DecDec) (h3 : (List (Dn S_SpcTest))) (h4 : (List (Dn S_DecDec))) (h5 : Dn S_DecDec) (h6 : (List (Dn S_SpcTest))) (h7 : (List (Dn S_DecDec))) : r_az g_ay p_ay g_ap p_ap g_av p_av g_au p_au (x0, ()) (k + 1) pt7 (h1_az x0 h0 h1 h2 h3 h4 h5 h6 h7) =
  (bif (decide ((1 : Int) <= h0)) then (r_az g_ay p_ay g_ap p_ap g_av p_av g_au p_au (x0, ()) k pt4 (h2_az x0 h0 (0 : Int) h1 h2 h3 h4 h5 h6 h7)) else (some ((x0.1, (h6, (h7, h5))), (true, ())))) := by kernel_rfl
theorem rd2_az (k : Nat) (x0 : Dm (.imm S_BatBatch)) (h0 : Dn I) (h1 : Dn I) (h2 : Dn I) (h3 : Dn S_DecDec) (h4 : (List (Dn S_SpcTest))) (h5 : (List (Dn S_DecDec))) (h6 : Dn S_DecDec) (h7 : (List (Dn S_SpcTest))) (h8 : (List (Dn S_DecDec))) : r_az g_ay p_ay g_ap p_ap g_av p_av g_au p_au (x0, ()) (k + 1) pt4 (h2_az x0 h0 h1 h2 h3 h4 h5 h6 h7 h8) =
  (bif (decide (h1 < (List.length x0.2.2.2.2.1 : Int))) then (bif (bif (decide ((0 : Int) <= h1)) then (decide (h1 < (List.length x0.2.2.2.2.1 : Int))) else false) then (cl (p_av (x0, ((3 : Int), (h0, ())))) (g_av (x0, ((3 : Int), (h0, ())))) fun y0 => (bif (decide ((rdL (e := S_DayDay) x0.2.2.2.2.1 h1).1 = h0)) then (bif (decide ((rdL (e := S_DayDay) x0.2.2.2.2.1 h1).2.1 = (2 : Int))) then (cl (p_au (x0, ())) (g_au (x0, ())) fun y1 => (bif (decide ((rdL (e := S_DayDay) x0.2.2.2.2.1 h1).2.2 = y1.1)) then (bif (decide ((0 : Int) < y0.1)) then (r_az g_ay p_ay g_ap p_ap g_av p_av g_au p_au (x0, ()) k pt4 (h2_az x0 h0 (w64 (h1 + (1 : Int))) h2 h3 h4 h5 (h0, y0.1) h7 h8)) else (r_az g_ay p_ay g_ap p_ap g_av p_av g_au p_au (x0, ()) k pt4 (h2_az x0 h0 (w64 (h1 + (1 : Int))) h2 h3 h4 h5 h6 h7 h8))) else (r_az g_ay p_ay g_ap p_ap g_av p_av g_au p_au (x0, ()) k pt4 (h2_az x0 h0 (w64 (h1 + (1 : Int))) h2 h3 h4 h5 h6 h7 h8)))) else (r_az g_ay p_ay g_ap p_ap g_av p_av g_au p_au (x0, ()) k pt4 (h2_az x0 h0 (w64 (h1 + (1 : Int))) h2 h3 h4 h5 h6 h7 h8))) else (r_az g_ay p_ay g_ap p_ap g_av p_av g_au p_au (x0, ()) k pt4 (h2_az x0 h0 (w64 (h1 + (1 : Int))) h2 h3 h4 h5 h6 h7 h8)))) else none) else (r_az g_ay p_ay g_ap p_ap g_av p_av g_au p_au (x0, ()) k pt7 (h1_az x0 (w64 (h0 - (1 : Int))) h2 h3 h4 h5 h6 h7 h8))) := by kernel_rfl
theorem S_az (h_ay : C_ay p_ay g_ay) (h_ap : C_ap p_ap g_ap) (h_av : C_av p_av g_av) (h_au : C_au p_au g_au) {pre : In_az -> Bool} {fn : In_az -> Out_az} (hev : ∀ x, pre x = true -> ∃ k, E_az g_ay p_ay g_ap p_ap g_av p_av g_au p_au k x = some (fn x)) : C_az pre fn := sound tysOk mixed (fn := Try.f57) rfl rfl rfl (.cons h_ay (.cons h_ap (.cons h_av (.cons h_au .nil)))) _ hev
end
/-! iin -/
abbrev M_iin : List Vm.Mode := [.imm I, .imm I, .imm I]
abbrev R_iin : List (RK × Sh) := [(.imm, .bool)]
abbrev In_iin : Type := (insSh M_iin).den
abbrev Out_iin : Type := (outSh R_iin M_iin).den
abbrev C_iin (pre : In_iin -> Bool) (fn : In_iin -> Out_iin) : Prop := Sound Try.prog 84 ⟨M_iin, R_iin, pre, fn⟩
abbrev X_iin : Ctx := ctx tys 15 (conOf []) (keepOf []) (fun _ => [])
noncomputable abbrev E_iin (k : Nat) (x : In_iin) : Option Out_iin := evFn X_iin Try.f84 R_iin M_iin k x
theorem ev_iin (k : Nat) (x0 : Dm (.imm I)) (x1 : Dm (.imm I)) (x2 : Dm (.imm I)) : E_iin k (x0, x1, x2, ()) =
  (bif (decide (x1 <= x0)) then (some ((decide (x0 <= x2)), ())) else (some (false, ()))) := by kernel_rfl
theorem S_iin  {pre : In_iin -> Bool} {fn : In_iin -> Out_iin} (hev : ∀ x, pre x = true -> ∃ k, E_iin k x = some (fn x)) : C_iin pre fn := sound tysOk mixed (fn := Try.f84) rfl rfl rfl ConsOk.nil _ hev
/-! b0: iisTest -/
abbrev M_b0 : List Vm.Mode := [.imm I]
abbrev R_b0 : List (RK × Sh) := [(.imm, .bool)]
abbrev In_b0 : Type := (insSh M_b0).den
abbrev Out_b0 : Type := (outSh R_b0 M_b0).den
abbrev C_b0 (pre : In_b0 -> Bool) (fn : In_b0 -> Out_b0) : Prop := Sound Try.prog 146 ⟨M_b0, R_b0, pre, fn⟩
section
variable (g_iin : In_iin -> Out_iin)
abbrev X_b0 : Ctx := ctx tys 5 (conOf [(84, ⟨M_iin, R_iin, fun _ => true, g_iin⟩)]) (keepOf []) (fun _ => [])
noncomputable abbrev E_b0 (k : Nat) (x : In_b0) : Option Out_b0 := evFn (X_b0 g_iin) Try.f146 R_b0 M_b0 k x
variable {g_iin}
theorem ev_b0 (k : Nat) (x0 : Dm (.imm I)) : E_b0 g_iin k (x0, ()) =
  (some ((g_iin (x0, ((1 : Int), ((4 : Int), ())))).1, ())) := by kernel_rfl
theorem S_b0 (h_iin : C_iin (fun _ => true) g_iin) {pre : In_b0 -> Bool} {fn : In_b0 -> Out_b0} (hev : ∀ x, pre x = true -> ∃ k, E_b0 g_iin k x = some (fn x)) : C_b0 pre fn := sound tysOk mixed (fn := Try.f146) rfl rfl rfl (.cons h_iin .nil) _ hev
end
/-! b1: ipower -/
abbrev M_b1 : List Vm.Mode := [.imm I]
abbrev R_b1 : List (RK × Sh) := [(.imm, I)]
abbrev In_b1 : Type := (insSh M_b1).den
abbrev Out_b1 : Type := (outSh R_b1 M_b1).den
abbrev C_b1 (pre : In_b1 -> Bool) (fn : In_b1 -> Out_b1) : Prop := Sound Try.prog 141 ⟨M_b1, R_b1, pre, fn⟩
abbrev X_b1 : Ctx := ctx tys 11 (conOf []) (keepOf [(pt0, (⟨[(3, .asis), (4, .asis), (5, .asis)], [], []⟩ : Keep))]) (fun _ => [])
noncomputable abbrev E_b1 (k : Nat) (x : In_b1) : Option Out_b1 := evFn X_b1 Try.f141 R_b1 M_b1 k x
def h0_b1 (x0 : Dm (.imm I)) (h0 : Dn I) (h1 : Dn I) : St := mkS [(3, (AV.val I h0)), (4, (AV.val I x0)), (5, (AV.val I h1))] []
noncomputable def r_b1 (x : In_b1) (k : Nat) (p : List Bool) (s : St) : Option Out_b1 := rounds X_b1 Try.f141 R_b1 M_b1 x k p s
theorem ev_b1 (k : Nat) (x0 : Dm (.imm I)) : E_b1 k (x0, ()) =
  (r_b1  (x0, ()) k pt0 (h0_b1 x0 (1 : Int) (0 : Int))) := by kernel_rfl
theorem rd0_b1 (k : Nat) (x0 : Dm (.imm I)) (h0 : Dn I) (h1 : Dn I) : r_b1  (x0, ()) (k + 1) pt0 (h0_b1 x0 h0 h1) =
  (bif (decide (h1 < x0)) then (r_b1  (x0, ()) k pt0 (h0_b1 x0 (w64 (h0 * (10 : Int))) (w64 (h1 + (1 : Int))))) else (some (h0, ()))) := by kernel_rfl
theorem S_b1  {pre : In_b1 -> Bool} {fn : In_b1 -> Out_b1} (hev : ∀ x, pre x = true -> ∃ k, E_b1 k x = some (fn x)) : C_b1 pre fn := sound tysOk mixed (fn := Try.f141) rfl rfl rfl ConsOk.nil _ hev
/-! b2: iDecOk -/
abbrev M_b2 : List Vm.Mode := [.imm S_DecDec]
abbrev R_b2 : List (RK × Sh) := [(.imm, .bool)]
abbrev In_b2 : Type := (insSh M_b2).den
abbrev Out_b2 : Type := (outSh R_b2 M_b2).den
abbrev C_b2 (pre : In_b2 -> Bool) (fn : In_b2 -> Out_b2) : Prop := Sound Try.prog 70 ⟨M_b2, R_b2, pre, fn⟩
section
variable (g_iin : In_iin -> Out_iin) (g_b1 : In_b1 -> Out_b1) (p_b1 : In_b1 -> Bool)
abbrev X_b2 : Ctx := ctx tys 19 (conOf [(84, ⟨M_iin, R_iin, fun _ => true, g_iin⟩), (141, ⟨M_b1, R_b1, p_b1, g_b1⟩)]) (keepOf []) (fun _ => [])
noncomputable abbrev E_b2 (k : Nat) (x : In_b2) : Option Out_b2 := evFn (X_b2 g_iin g_b1 p_b1) Try.f70 R_b2 M_b2 k x
variable {g_iin g_b1 p_b1}
theorem ev_b2 (k : Nat) (x0 : Dm (.imm S_DecDec)) : E_b2 g_iin g_b1 p_b1 k (x0, ()) =
  (bif (g_iin (x0.2, ((0 : Int), ((3 : Int), ())))).1 then (bif (p_b1 (x0.2, ())) then (bif (p_b1 (x0.2, ())) then (some ((g_iin (x0.1, ((w64 ((-9999 : Int) * (g_b1 (x0.2, ())).1)), ((w64 ((9999 : Int) * (g_b1 (x0.2, ())).1)), ())))).1, ())) else none) else none) else (some (false, ()))) := by kernel_rfl
theorem S_b2 (h_iin : C_iin (fun _ => true) g_iin) (h_b1 : C_b1 p_b1 g_b1) {pre : In_b2 -> Bool} {fn : In_b2 -> Out_b2} (hev : ∀ x, pre x = true -> ∃ k, E_b2 g_iin g_b1 p_b1 k x = some (fn x)) : C_b2 pre fn := sound tysOk mixed (fn := Try.f70) rfl rfl rfl (.cons h_iin (.cons h_b1 .nil)) _ hev
end
/-! b3: inearest -/
abbrev M_b3 : List Vm.Mode := [.imm I, .imm I]
abbrev R_b3 : List (RK × Sh) := [(.imm, I)]
abbrev In_b3 : Type := (insSh M_b3).den
abbrev Out_b3 : Type := (outSh R_b3 M_b3).den
abbrev C_b3 (pre : In_b3 -> Bool) (fn : In_b3 -> Out_b3) : Prop := Sound Try.prog 147 ⟨M_b3, R_b3, pre, fn⟩
section
variable (g_b3 : In_b3 -> Out_b3) (p_b3 : In_b3 -> Bool)
abbrev X_b3 : Ctx := ctx tys 19 (conOf [(147, ⟨M_b3, R_b3, p_b3, g_b3⟩)]) (keepOf []) (fun _ => [])
noncomputable abbrev E_b3 (k : Nat) (x : In_b3) : Option Out_b3 := evFn (X_b3 g_b3 p_b3) Try.f147 R_b3 M_b3 k x
variable {g_b3 p_b3}
theorem ev_b3 (k : Nat) (x0 : Dm (.imm I)) (x1 : Dm (.imm I)) : E_b3 g_b3 p_b3 k (x0, x1, ()) =
  (bif (decide (x0 < (0 : Int))) then (bif (p_b3 ((w64 ((0 : Int) - x0)), (x1, ()))) then (some ((w64 ((0 : Int) - (g_b3 ((w64 ((0 : Int) - x0)), (x1, ()))).1)), ())) else none) else (bif (bif (decide ((w64 ((2 : Int) * x1)) = (0 : Int))) then false else true) then (some ((w64 (Int.tdiv (w64 ((w64 ((2 : Int) * x0)) + x1)) (w64 ((2 : Int) * x1)))), ())) else none)) := by kernel_rfl
theorem S_b3 (h_b3 : C_b3 p_b3 g_b3) {pre : In_b3 -> Bool} {fn : In_b3 -> Out_b3} (hev : ∀ x, pre x = true -> ∃ k, E_b3 g_b3 p_b3 k x = some (fn x)) : C_b3 pre fn := sound tysOk mixed (fn := Try.f147) rfl rfl rfl (.cons h_b3 .nil) _ hev
end
theorem S0_b3 {fn : In_b3 -> Out_b3} : C_b3 (fun _ => false) fn := sound tysOk mixed (fn := Try.f147) (n := 19) (keep := keepOf []) (fz := fun _ => []) rfl rfl rfl ConsOk.nil _ fun x hx => by cases hx
/-! b4: iDecAt -/
abbrev M_b4 : List Vm.Mode := [.imm S_DecDec, .imm I]
abbrev R_b4 : List (RK × Sh) := [(.imm, S_DecDec)]
abbrev In_b4 : Type := (insSh M_b4).den
abbrev Out_b4 : Type := (outSh R_b4 M_b4).den
abbrev C_b4 (pre : In_b4 -> Bool) (fn : In_b4 -> Out_b4) : Prop := Sound Try.prog 81 ⟨M_b4, R_b4, pre, fn⟩
section
variable (g_b2 : In_b2 -> Out_b2) (g_iin : In_iin -> Out_iin) (g_b1 : In_b1 -> Out_b1) (p_b1 : In_b1 -> Bool) (g_b3 : In_b3 -> Out_b3) (p_b3 : In_b3 -> Bool)
abbrev X_b4 : Ctx := ctx tys 40 (conOf [(70, ⟨M_b2, R_b2, fun _ => true, g_b2⟩), (84, ⟨M_iin, R_iin, fun _ => true, g_iin⟩), (141, ⟨M_b1, R_b1, p_b1, g_b1⟩), (147, ⟨M_b3, R_b3, p_b3, g_b3⟩)]) (keepOf []) (fun _ => [])
noncomputable abbrev E_b4 (k : Nat) (x : In_b4) : Option Out_b4 := evFn (X_b4 g_b2 g_iin g_b1 p_b1 g_b3 p_b3) Try.f81 R_b4 M_b4 k x
variable {g_b2 g_iin g_b1 p_b1 g_b3 p_b3}
theorem ev_b4 (k : Nat) (x0 : Dm (.imm S_DecDec)) (x1 : Dm (.imm I)) : E_b4 g_b2 g_iin g_b1 p_b1 g_b3 p_b3 k (x0, x1, ()) =
  (bif (bif (g_b2 (x0, ())).1 then false else true) then (some (((0 : Int), (0 : Int)), ())) else (bif (bif (g_iin (x1, ((0 : Int), ((3 : Int), ())))).1 then false else true) then (some (((0 : Int), (0 : Int)), ())) else (bif (decide (x0.2 <= x1)) then (bif (p_b1 ((w64 (x1 - x0.2)), ())) then (some (((w64 (x0.1 * (g_b1 ((w64 (x1 - x0.2)), ())).1)), x1), ())) else none) else (bif (p_b1 ((w64 (x0.2 - x1)), ())) then (bif (p_b3 (x0.1, ((g_b1 ((w64 (x0.2 - x1)), ())).1, ()))) then (some (((g_b3 (x0.1, ((g_b1 ((w64 (x0.2 - x1)), ())).1, ()))).1, x1), ())) else none) else none)))) := by kernel_rfl
theorem S_b4 (h_b2 : C_b2 (fun _ => true) g_b2) (h_iin : C_iin (fun _ => true) g_iin) (h_b1 : C_b1 p_b1 g_b1) (h_b3 : C_b3 p_b3 g_b3) {pre : In_b4 -> Bool} {fn : In_b4 -> Out_b4} (hev : ∀ x, pre x = true -> ∃ k, E_b4 g_b2 g_iin g_b1 p_b1 g_b3 p_b3 k x = some (fn x)) : C_b4 pre fn := sound tysOk mixed (fn := Try.f81) rfl rfl rfl (.cons h_b2 (.cons h_iin (.cons h_b1 (.cons h_b3 .nil)))) _ hev
end
/-! b5: gisNaN_int -/
abbrev M_b5 : List Vm.Mode := [.imm I]
abbrev R_b5 : List (RK × Sh) := [(.imm, .bool)]
abbrev In_b5 : Type := (insSh M_b5).den
abbrev Out_b5 : Type := (outSh R_b5 M_b5).den
abbrev C_b5 (pre : In_b5 -> Bool) (fn : In_b5 -> Out_b5) : Prop := Sound Try.prog 191 ⟨M_b5, R_b5, pre, fn⟩
abbrev X_b5 : Ctx := ctx tys 6 (conOf []) (keepOf []) (fun _ => [])
noncomputable abbrev E_b5 (k : Nat) (x : In_b5) : Option Out_b5 := evFn X_b5 Try.f191 R_b5 M_b5 k x
theorem ev_b5 (k : Nat) (x0 : Dm (.imm I)) : E_b5 k (x0, ()) =
  (some ((bif (decide (x0 = x0)) then false else true), ())) := by kernel_rfl
theorem S_b5  {pre : In_b5 -> Bool} {fn : In_b5 -> Out_b5} (hev : ∀ x, pre x = true -> ∃ k, E_b5 k x = some (fn x)) : C_b5 pre fn := sound tysOk mixed (fn := Try.f191) rfl rfl rfl ConsOk.nil _ hev
/-! b6: gCompare_int -/
abbrev M_b6 : List Vm.Mode := [.imm I, .imm I]
abbrev R_b6 : List (RK × Sh) := [(.imm, I)]
abbrev In_b6 : Type := (insSh M_b6).den
abbrev Out_b6 : Type := (outSh R_b6 M_b6).den
abbrev C_b6 (pre : In_b6 -> Bool) (fn : In_b6 -> Out_b6) : Prop := Sound Try.prog 148 ⟨M_b6, R_b6, pre, fn⟩
section
variable (g_b5 : In_b5 -> Out_b5)
abbrev X_b6 : Ctx := ctx tys 20 (conOf [(191, ⟨M_b5, R_b5, fun _ => true, g_b5⟩)]) (keepOf []) (fun _ => [])
noncomputable abbrev E_b6 (k : Nat) (x : In_b6) : Option Out_b6 := evFn (X_b6 g_b5) Try.f148 R_b6 M_b6 k x
variable {g_b5}
theorem ev_b6 (k : Nat) (x0 : Dm (.imm I)) (x1 : Dm (.imm I)) : E_b6 g_b5 k (x0, x1, ()) =
  (bif (g_b5 (x0, ())).1 then (bif (g_b5 (x1, ())).1 then (some ((0 : Int), ())) else (some ((-1 : Int), ()))) else (bif (g_b5 (x1, ())).1 then (some ((1 : Int), ())) else (bif (decide (x0 < x1)) then (some ((-1 : Int), ())) else (bif (decide (x1 < x0)) then (some ((1 : Int), ())) else (some ((0 : Int), ())))))) := by kernel_rfl
theorem S_b6 (h_b5 : C_b5 (fun _ => true) g_b5) {pre : In_b6 -> Bool} {fn : In_b6 -> Out_b6} (hev : ∀ x, pre x = true -> ∃ k, E_b6 g_b5 k x = some (fn x)) : C_b6 pre fn := sound tysOk mixed (fn := Try.f148) rfl rfl rfl (.cons h_b5 .nil) _ hev
end
/-! b7: iDecCmp -/
abbrev M_b7 : List Vm.Mode := [.imm S_DecDec, .imm S_DecDec]
abbrev R_b7 : List (RK × Sh) := [(.imm, I)]
abbrev In_b7 : Type := (insSh M_b7).den
abbrev Out_b7 : Type := (outSh R_b7 M_b7).den
abbrev C_b7 (pre : In_b7 -> Bool) (fn : In_b7 -> Out_b7) : Prop := Sound Try.prog 82 ⟨M_b7, R_b7, pre, fn⟩
section
variable (g_b2 : In_b2 -> Out_b2) (g_b4 : In_b4 -> Out_b4) (g_b6 : In_b6 -> Out_b6)
abbrev X_b7 : Ctx := ctx tys 20 (conOf [(70, ⟨M_b2, R_b2, fun _ => true, g_b2⟩), (81, ⟨M_b4, R_b4, fun _ => true, g_b4⟩), (148, ⟨M_b6, R_b6, fun _ => true, g_b6⟩)]) (keepOf []) (fun _ => [])
noncomputable abbrev E_b7 (k : Nat) (x : In_b7) : Option Out_b7 := evFn (X_b7 g_b2 g_b4 g_b6) Try.f82 R_b7 M_b7 k x
variable {g_b2 g_b4 g_b6}
theorem ev_b7 (k : Nat) (x0 : Dm (.imm S_DecDec)) (x1 : Dm (.imm S_DecDec)) : E_b7 g_b2 g_b4 g_b6 k (x0, x1, ()) =
  (bif (bif (g_b2 (x0, ())).1 then false else true) then (some ((0 : Int), ())) else (bif (bif (g_b2 (x1, ())).1 then false else true) then (some ((0 : Int), ())) else (some ((g_b6 ((g_b4 (x0, ((3 : Int), ()))).1.1, ((g_b4 (x1, ((3 : Int), ()))).1.1, ()))).1, ())))) := by kernel_rfl
theorem S_b7 (h_b2 : C_b2 (fun _ => true) g_b2) (h_b4 : C_b4 (fun _ => true) g_b4) (h_b6 : C_b6 (fun _ => true) g_b6) {pre : In_b7 -> Bool} {fn : In_b7 -> Out_b7} (hev : ∀ x, pre x = true -> ∃ k, E_b7 g_b2 g_b4 g_b6 k x = some (fn x)) : C_b7 pre fn := sound tysOk mixed (fn := Try.f82) rfl rfl rfl (.cons h_b2 (.cons h_b4 (.cons h_b6 .nil))) _ hev
end
/-! b8: iSpcTest_ok -/
abbrev M_b8 : List Vm.Mode := [.imm S_SpcTest]
abbrev R_b8 : List (RK × Sh) := [(.imm, .bool)]
abbrev In_b8 : Type := (insSh M_b8).den
abbrev Out_b8 : Type := (outSh R_b8 M_b8).den
abbrev C_b8 (pre : In_b8 -> Bool) (fn : In_b8 -> Out_b8) : Prop := Sound Try.prog 80 ⟨M_b8, R_b8, pre, fn⟩
section
variable (g_b0 : In_b0 -> Out_b0) (g_b2 : In_b2 -> Out_b2) (g_b7 : In_b7 -> Out_b7) (g_iin : In_iin -> Out_iin)
abbrev X_b8 : Ctx := ctx tys 29 (conOf [(146, ⟨M_b0, R_b0, fun _ => true, g_b0⟩), (70, ⟨M_b2, R_b2, fun _ => true, g_b2⟩), (82, ⟨M_b7, R_b7, fun _ => true, g_b7⟩), (84, ⟨M_iin, R_iin, fun _ => true, g_iin⟩)]) (keepOf []) (fun _ => [])
noncomputable abbrev E_b8 (k : Nat) (x : In_b8) : Option Out_b8 := evFn (X_b8 g_b0 g_b2 g_b7 g_iin) Try.f80 R_b8 M_b8 k x
variable {g_b0 g_b2 g_b7 g_iin}
theorem ev_b8 (k : Nat) (x0 : Dm (.imm S_SpcTest)) : E_b8 g_b0 g_b2 g_b7 g_iin k (x0, ()) =
  (bif (g_b0 (x0.1, ())).1 then (bif (g_b2 (x0.2.1, ())).1 then (bif (g_b2 (x0.2.2.1, ())).1 then (bif (decide ((g_b7 (x0.2.1, (x0.2.2.1, ()))).1 <= (0 : Int))) then (some ((g_iin (x0.2.2.2, ((0 : Int), ((3 : Int), ())))).1, ())) else (some (false, ()))) else (some (false, ()))) else (some (false, ()))) else (some (false, ()))) := by kernel_rfl
theorem S_b8 (h_b0 : C_b0 (fun _ => true) g_b0) (h_b2 : C_b2 (fun _ => true) g_b2) (h_b7 : C_b7 (fun _ => true) g_b7) (h_iin : C_iin (fun _ => true) g_iin) {pre : In_b8 -> Bool} {fn : In_b8 -> Out_b8} (hev : ∀ x, pre x = true -> ∃ k, E_b8 g_b0 g_b2 g_b7 g_iin k x = some (fn x)) : C_b8 pre fn := sound tysOk mixed (fn := Try.f80) rfl rfl rfl (.cons h_b0 (.cons h_b2 (.cons h_b7 (.cons h_iin .nil)))) _ hev
end
/-! b9: idecsOk_c1 -/
abbrev M_b9 : List Vm.Mode := [.imm S_DecDec]
abbrev R_b9 : List (RK × Sh) := [(.imm, .bool)]
abbrev In_b9 : Type := (insSh M_b9).den
abbrev Out_b9 : Type := (outSh R_b9 M_b9).den
abbrev C_b9 (pre : In_b9 -> Bool) (fn : In_b9 -> Out_b9) : Prop := Sound Try.prog 150 ⟨M_b9, R_b9, pre, fn⟩
section
variable (g_b2 : In_b2 -> Out_b2)
abbrev X_b9 : Ctx := ctx tys 6 (conOf [(70, ⟨M_b2, R_b2, fun _ => true, g_b2⟩)]) (keepOf []) (fun _ => [])
noncomputable abbrev E_b9 (k : Nat) (x : In_b9) : Option Out_b9 := evFn (X_b9 g_b2) Try.f150 R_b9 M_b9 k x
variable {g_b2}
theorem ev_b9 (k : Nat) (x0 : Dm (.imm S_DecDec)) : E_b9 g_b2 k (x0, ()) =
  (some ((bif (g_b2 (x0, ())).1 then false else true), ())) := by kernel_rfl
theorem S_b9 (h_b2 : C_b2 (fun _ => true) g_b2) {pre : In_b9 -> Bool} {fn : In_b9 -> Out_b9} (hev : ∀ x, pre x = true -> ∃ k, E_b9 g_b2 k x = some (fn x)) : C_b9 pre fn := sound tysOk mixed (fn := Try.f150) rfl rfl rfl (.cons h_b2 .nil) _ hev
end
/-! ba: gIndexFunc_DecDec__idecsOk_c1 -/
abbrev M_ba : List Vm.Mode := [.imm L_DecDec, .clo 150 []]
abbrev R_ba : List (RK × Sh) := [(.imm, I)]
abbrev In_ba : Type := (insSh M_ba).den
abbrev Out_ba : Type := (outSh R_ba M_ba).den
abbrev C_ba (pre : In_ba -> Bool) (fn : In_ba -> Out_ba) : Prop := Sound Try.prog 192 ⟨M_ba, R_ba, pre, fn⟩
section
variable (g_b9 : In_b9 -> Out_b9)
abbrev X_ba : Ctx := ctx tys 19 (conOf [(150, ⟨M_b9, R_b9, fun _ => true, g_b9⟩)]) (keepOf [(pt1, (⟨[(0, .asis), (1, .asis), (7, .asis), (8, .asis)], [], []⟩ : Keep))]) (fun _ => [])
noncomputable abbrev E_ba (k : Nat) (x : In_ba) : Option Out_ba := evFn (X_ba g_b9) Try.f192 R_ba M_ba k x
def h0_ba (x0 : Dm (.imm L_DecDec)) (x1 : Dm (.clo 150 [])) (h0 : Dn I) (h1 : Dn I) : St := mkS [(0, (AV.val L_DecDec x0)), (1, (AV.fn 150 [])), (7, (AV.val I h0)), (8, (AV.val I h1))] []
noncomputable def r_ba (x : In_ba) (k : Nat) (p : List Bool) (s : St) : Option Out_ba := rounds (X_ba g_b9) Try.f192 R_ba M_ba x k p s
variable {g_b9}
theorem ev_ba (k : Nat) (x0 : Dm (.imm L_DecDec)) (x1 : Dm (.clo 150 [])) : E_ba g_b9 k (x0, x1, ()) =
  (r_ba g_b9 (x0, x1, ()) k pt1 (h0_ba x0 x1 (List.length x0 : Int) (0 : Int))) := by kernel_rfl
theorem rd0_ba (k : Nat) (x0 : Dm (.imm L_DecDec)) (x1 : Dm (.clo 150 [])) (h0 : Dn I) (h1 : Dn I) : r_ba g_b9 (x0, x1, ()) (k + 1) pt1 (h0_ba x0 x1 h0 h1) =
  (bif (decide (h1 < h0)) then (bif (bif (decide ((0 : Int) <= h1)) then (decide (h1 < (List.length x0 : Int))) else false) then (bif (g_b9 ((rdL (e := S_DecDec) x0 h1), ())).1 then (some (h1, ())) else (r_ba g_b9 (x0, x1, ()) k pt1 (h0_ba x0 x1 h0 (w64 (h1 + (1 : Int)))))) else none) else (some ((-1 : Int), ()))) := by kernel_rfl
theorem S_ba (h_b9 : C_b9 (fun _ => true) g_b9) {pre : In_ba -> Bool} {fn : In_ba -> Out_ba} (hev : ∀ x, pre x = true -> ∃ k, E_ba g_b9 k x = some (fn x)) : C_ba pre fn := sound tysOk mixed (fn := Try.f192) rfl rfl rfl (.cons h_b9 .nil) _ hev
end
/-! bb: gContainsFunc_DecDec__idecsOk_c1 -/
abbrev M_bb : List Vm.Mode := [.imm L_DecDec, .clo 150 []]
abbrev R_bb : List (RK × Sh) := [(.imm, .bool)]
abbrev In_bb : Type := (insSh M_bb).den
abbrev Out_bb : Type := (outSh R_bb M_bb).den
abbrev C_bb (pre : In_bb -> Bool) (fn : In_bb -> Out_bb) : Prop := Sound Try.prog 149 ⟨M_bb, R_bb, pre, fn⟩
section
variable (g_ba : In_ba -> Out_ba) (p_ba : In_ba -> Bool)
abbrev X_bb : Ctx := ctx tys 9 (conOf [(192, ⟨M_ba, R_ba, p_ba, g_ba⟩)]) (keepOf []) (fun _ => [])
noncomputable abbrev E_bb (k : Nat) (x : In_bb) : Option Out_bb := evFn (X_bb g_ba p_ba) Try.f149 R_bb M_bb k x
variable {g_ba p_ba}
theorem ev_bb (k : Nat) (x0 : Dm (.imm L_DecDec)) (x1 : Dm (.clo 150 [])) : E_bb g_ba p_ba k (x0, x1, ()) =
  (bif (p_ba (x0, ((), ()))) then (some ((decide ((0 : Int) <= (g_ba (x0, ((), ()))).1)), ())) else none) := by kernel_rfl
theorem S_bb (h_ba : C_ba p_ba g_ba) {pre : In_bb -> Bool} {fn : In_bb -> Out_bb} (hev : ∀ x, pre x = true -> ∃ k, E_bb g_ba p_ba k x = some (fn x)) : C_bb pre fn := sound tysOk mixed (fn := Try.f149) rfl rfl rfl (.cons h_ba .nil) _ hev
end
/-! bc: idecsOk -/
abbrev M_bc : List Vm.Mode := [.imm L_DecDec]
abbrev R_bc : List (RK × Sh) := [(.imm, .bool)]
abbrev In_bc : Type := (insSh M_bc).den
abbrev Out_bc : Type := (outSh R_bc M_bc).den
abbrev C_bc (pre : In_bc -> Bool) (fn : In_bc -> Out_bc) : Prop := Sound Try.prog 83 ⟨M_bc, R_bc, pre, fn⟩
section
variable (g_bb : In_bb -> Out_bb) (p_bb : In_bb -> Bool)
abbrev X_bc : Ctx := ctx tys 6 (conOf [(149, ⟨M_bb, R_bb, p_bb, g_bb⟩)]) (keepOf []) (fun _ => [])
noncomputable abbrev E_bc (k : Nat) (x : In_bc) : Option Out_bc := evFn (X_bc g_bb p_bb) Try.f83 R_bc M_bc k x
variable {g_bb p_bb}
theorem ev_bc (k : Nat) (x0 : Dm (.imm L_DecDec)) : E_bc g_bb p_bb k (x0, ()) =
  (bif (p_bb (x0, ((), ()))) then (some ((bif (g_bb (x0, ((), ()))).1 then false else true), ())) else none) := by kernel_rfl
theorem S_bc (h_bb : C_bb p_bb g_bb) {pre : In_bc -> Bool} {fn : In_bc -> Out_bc} (hev : ∀ x, pre x = true -> ∃ k, E_bc g_bb p_bb k x = some (fn x)) : C_bc pre fn := sound tysOk mixed (fn := Try.f83) rfl rfl rfl (.cons h_bb .nil) _ hev
end
/-! bd: iTstNeed -/
abbrev M_bd : List Vm.Mode := [.imm I]
abbrev R_bd : List (RK × Sh) := [(.imm, I)]
abbrev In_bd : Type := (insSh M_bd).den
abbrev Out_bd : Type := (outSh R_bd M_bd).den
abbrev C_bd (pre : In_bd -> Bool) (fn : In_bd -> Out_bd) : Prop := Sound Try.prog 30 ⟨M_bd, R_bd, pre, fn⟩
abbrev X_bd : Ctx := ctx tys 8 (conOf []) (keepOf []) (fun _ => [])
noncomputable abbrev E_bd (k : Nat) (x : In_bd) : Option Out_bd := evFn X_bd Try.f30 R_bd M_bd k x
theorem ev_bd (k : Nat) (x0 : Dm (.imm I)) : E_bd k (x0, ()) =
  (bif (decide (x0 = (1 : Int))) then (some ((1 : Int), ())) else (bif (decide (x0 = (2 : Int))) then (some ((2 : Int), ())) else (some ((0 : Int), ())))) := by kernel_rfl
theorem S_bd  {pre : In_bd -> Bool} {fn : In_bd -> Out_bd} (hev : ∀ x, pre x = true -> ∃ k, E_bd k x = some (fn x)) : C_bd pre fn := sound tysOk mixed (fn := Try.f30) rfl rfl rfl ConsOk.nil _ hev
/-! be: iSpcIn -/
abbrev M_be : List Vm.Mode := [.imm S_SpcTest, .imm S_DecDec]
abbrev R_be : List (RK × Sh) := [(.imm, .bool)]
abbrev In_be : Type := (insSh M_be).den
abbrev Out_be : Type := (outSh R_be M_be).den
abbrev C_be (pre : In_be -> Bool) (fn : In_be -> Out_be) : Prop := Sound Try.prog 20 ⟨M_be, R_be, pre, fn⟩
section
variable (g_b8 : In_b8 -> Out_b8) (g_b2 : In_b2 -> Out_b2) (g_b4 : In_b4 -> Out_b4) (g_b7 : In_b7 -> Out_b7)
abbrev X_be : Ctx := ctx tys 30 (conOf [(80, ⟨M_b8, R_b8, fun _ => true, g_b8⟩), (70, ⟨M_b2, R_b2, fun _ => true, g_b2⟩), (81, ⟨M_b4, R_b4, fun _ => true, g_b4⟩), (82, ⟨M_b7, R_b7, fun _ => true, g_b7⟩)]) (keepOf []) (fun _ => [])
noncomputable abbrev E_be (k : Nat) (x : In_be) : Option Out_be := evFn (X_be g_b8 g_b2 g_b4 g_b7) Try.f20 R_be M_be k x
variable {g_b8 g_b2 g_b4 g_b7}
theorem ev_be (k : Nat) (x0 : Dm (.imm S_SpcTest)) (x1 : Dm (.imm S_DecDec)) : E_be g_b8 g_b2 g_b4 g_b7 k (x0, x1, ()) =
  (bif (bif (g_b8 (x0, ())).1 then false else true) then (some (false, ())) else (bif (bif (g_b2 (x1, ())).1 then false else true) then (some (false, ())) else (bif (decide ((g_b7 (x0.2.1, ((g_b4 (x1, (x0.2.2.2, ()))).1, ()))).1 <= (0 : Int))) then (some ((decide ((g_b7 ((g_b4 (x1, (x0.2.2.2, ()))).1, (x0.2.2.1, ()))).1 <= (0 : Int))), ())) else (some (false, ()))))) := by kernel_rfl
theorem S_be (h_b8 : C_b8 (fun _ => true) g_b8) (h_b2 : C_b2 (fun _ => true) g_b2) (h_b4 : C_b4 (fun _ => true) g_b4) (h_b7 : C_b7 (fun _ => true) g_b7) {pre : In_be -> Bool} {fn : In_be -> Out_be} (hev : ∀ x, pre x = true -> ∃ k, E_be g_b8 g_b2 g_b4 g_b7 k x = some (fn x)) : C_be pre fn := sound tysOk mixed (fn := Try.f20) rfl rfl rfl (.cons h_b8 (.cons h_b2 (.cons h_b4 (.cons h_b7 .nil)))) _ hev
end
/-! bf: iDecMean -/
abbrev M_bf : List Vm.Mode := [.imm L_DecDec, .imm I]
abbrev R_bf : List (RK × Sh) := [(.imm, S_DecDec)]
abbrev In_bf : Type := (insSh M_bf).den
abbrev Out_bf : Type := (outSh R_bf M_bf).den
abbrev C_bf (pre : In_bf -> Bool) (fn : In_bf -> Out_bf) : Prop := Sound Try.prog 152 ⟨M_bf, R_bf, pre, fn⟩
section
variable (g_iin : In_iin -> Out_iin) (g_bc : In_bc -> Out_bc) (p_bc : In_bc -> Bool) (g_b4 : In_b4 -> Out_b4) (g_b1 : In_b1 -> Out_b1) (p_b1 : In_b1 -> Bool) (g_b3 : In_b3 -> Out_b3) (p_b3 : In_b3 -> Bool)
abbrev X_bf : Ctx := ctx tys 46 (conOf [(84, ⟨M_iin, R_iin, fun _ => true, g_iin⟩), (83, ⟨M_bc, R_bc, p_bc, g_bc⟩), (81, ⟨M_b4, R_b4, fun _ => true, g_b4⟩), (141, ⟨M_b1, R_b1, p_b1, g_b1⟩), (147, ⟨M_b3, R_b3, p_b3, g_b3⟩)]) (keepOf [(pt2, (⟨[(0, .asis), (1, .asis), (4, .asis), (5, .asis), (23, .asis), (24, .asis), (25, .asis)], [(4, .asis)], []⟩ : Keep))]) (fun _ => [])
noncomputable abbrev E_bf (k : Nat) (x : In_bf) : Option Out_bf := evFn (X_bf g_iin g_bc p_bc g_b4 g_b1 p_b1 g_b3 p_b3) Try.f152 R_bf M_bf k x
def h0_bf (x0 : Dm (.imm L_DecDec)) (x1 : Dm (.imm I)) (h0 : Dn I) (h1 : Dn I) (h2 : Dn I) (h3 : Dn S_DecDec) : St := mkS [(0, (AV.val L_DecDec x0)), (1, (AV.val I x1)), (4, (AV.ptr 4 none [])), (5, (AV.val I h0)), (23, (AV.val L_DecDec x0)), (24, (AV.val I h1)), (25, (AV.val I h2))] [(4, (Ob.box S_DecDec (AV.val S_DecDec h3)))]
noncomputable def r_bf (x : In_bf) (k : Nat) (p : List Bool) (s : St) : Option Out_bf := rounds (X_bf g_iin g_bc p_bc g_b4 g_b1 p_b1 g_b3 p_b3) Try.f152 R_bf M_bf x k p s
variable {g_iin g_bc p_bc g_b4 g_b1 p_b1 g_b3 p_b3}
theorem ev_bf (k : Nat) (x0 : Dm (.imm L_DecDec)) (x1 : Dm (.imm I)) : E_bf g_iin g_bc p_bc g_b4 g_b1 p_b1 g_b3 p_b3 k (x0, x1, ()) =
  (bif (bif (g_iin ((List.length x0 : Int), ((1 : Int), ((100 : Int), ())))).1 then false else true) then (some (((0 : Int), (0 : Int)), ())) else (bif (p_bc (x0, ())) then (bif (bif (g_bc (x0, ())).1 then false else true) then (some (((0 : Int), (0 : Int)), ())) else (bif (bif (g_iin (x1, ((0 : Int), ((3 : Int), ())))).1 then false else true) then (some (((0 : Int), (0 : Int)), ())) else (r_bf g_iin g_bc p_bc g_b4 g_b1 p_b1 g_b3 p_b3 (x0, x1, ()) k pt2 (h0_bf x0 x1 (0 : Int) (List.length x0 : Int) (0 : Int) ((0 : Int), (0 : Int)))))) else none)) := by kernel_rfl
theorem rd0_bf (k : Nat) (x0 : Dm (.imm L_DecDec)) (x1 : Dm (.imm I)) (h0 : Dn I) (h1 : Dn I) (h2 : Dn I) (h3 : Dn S_DecDec) : r_bf g_iin g_bc p_bc g_b4 g_b1 p_b1 g_b3 p_b3 (x0, x1, ()) (k + 1) pt2 (h0_bf x0 x1 h0 h1 h2 h3) =
  (bif (decide (h2 < h1)) then (bif (bif (decide ((0 : Int) <= h2)) then (decide (h2 < (List.length x0 : Int))) else false) then (r_bf g_iin g_bc p_bc g_b4 g_b1 p_b1 g_b3 p_b3 (x0, x1, ()) k pt2 (h0_bf x0 x1 (w64 (h0 + (g_b4 ((rdL (e := S_DecDec) x0 h2), ((3 : Int), ()))).1.1)) h1 (w64 (h2 + (1 : Int))) h3)) else none) else (bif (p_b1 (x1, ())) then (bif (p_b1 ((3 : Int), ())) then (bif (p_b3 ((w64 (h0 * (g_b1 (x1, ())).1)), ((w64 ((List.length x0 : Int) * (g_b1 ((3 : Int), ())).1)), ()))) then (some (((g_b3 ((w64 (h0 * (g_b1 (x1, ())).1)), ((w64 ((List.length x0 : Int) * (g_b1 ((3 : Int), ())).1)), ()))).1, x1), ())) else none) else none) else none)) := by kernel_rfl
theorem S_bf (h_iin : C_iin (fun _ => true) g_iin) (h_bc : C_bc p_bc g_bc) (h_b4 : C_b4 (fun _ => true) g_b4) (h_b1 : C_b1 p_b1 g_b1) (h_b3 : C_b3 p_b3 g_b3) {pre : In_bf -> Bool} {fn : In_bf -> Out_bf} (hev : ∀ x, pre x = true -> ∃ k, E_bf g_iin g_bc p_bc g_b4 g_b1 p_b1 g_b3 p_b3 k x = some (fn x)) : C_bf pre fn := sound tysOk mixed (fn := Try.f152) rfl rfl rfl (.cons h_iin (.cons h_bc (.cons h_b4 (.cons h_b1 (.cons h_b3 .nil))))) _ hev
end
/-! bg: iTstTest_counts -/
abbrev M_bg : List Vm.Mode := [.imm S_TstTest]
abbrev R_bg : List (RK × Sh) := [(.imm, S_DecDec)]
abbrev In_bg : Type := (insSh M_bg).den
abbrev Out_bg : Type := (outSh R_bg M_bg).den
abbrev C_bg (pre : In_bg -> Bool) (fn : In_bg -> Out_bg) : Prop := Sound Try.prog 89 ⟨M_bg, R_bg, pre, fn⟩
section
variable (g_b4 : In_b4 -> Out_b4) (g_bf : In_bf -> Out_bf) (p_bf : In_bf -> Bool)
abbrev X_bg : Ctx := ctx tys 33 (conOf [(81, ⟨M_b4, R_b4, fun _ => true, g_b4⟩), (152, ⟨M_bf, R_bf, p_bf, g_bf⟩)]) (keepOf []) (fun _ => [])
noncomputable abbrev E_bg (k : Nat) (x : In_bg) : Option Out_bg := evFn (X_bg g_b4 g_bf p_bf) Try.f89 R_bg M_bg k x
variable {g_b4 g_bf p_bf}
theorem ev_bg (k : Nat) (x0 : Dm (.imm S_TstTest)) : E_bg g_b4 g_bf p_bf k (x0, ()) =
  (bif (decide (x0.2.2.2.1 = (1 : Int))) then (bif (bif (decide ((0 : Int) <= (0 : Int))) then (decide ((0 : Int) < (List.length x0.2.2.2.2 : Int))) else false) then (some ((g_b4 ((rdL (e := S_DecDec) x0.2.2.2.2 (0 : Int)), (x0.1.2.2.2, ()))).1, ())) else none) else (bif (decide (x0.2.2.2.1 = (2 : Int))) then (bif (fitL [x0.2.2.1] x0.2.2.2.2) then (bif (p_bf ((List.append [x0.2.2.1] x0.2.2.2.2), (x0.1.2.2.2, ()))) then (some ((g_bf ((List.append [x0.2.2.1] x0.2.2.2.2), (x0.1.2.2.2, ()))).1, ())) else none) else none) else (some ((g_b4 (x0.2.2.1, (x0.1.2.2.2, ()))).1, ())))) := by kernel_rfl
theorem S_bg (h_b4 : C_b4 (fun _ => true) g_b4) (h_bf : C_bf p_bf g_bf) {pre : In_bg -> Bool} {fn : In_bg -> Out_bg} (hev : ∀ x, pre x = true -> ∃ k, E_bg g_b4 g_bf p_bf k x = some (fn x)) : C_bg pre fn := sound tysOk mixed (fn := Try.f89) rfl rfl rfl (.cons h_b4 (.cons h_bf .nil)) _ hev
end
/-! bh: iTstTest_told_c1 -/
abbrev M_bh : List Vm.Mode := [.imm S_DecDec, .pR S_TstTest]
abbrev R_bh : List (RK × Sh) := [(.imm, .bool)]
abbrev In_bh : Type := (insSh M_bh).den
abbrev Out_bh : Type := (outSh R_bh M_bh).den
abbrev C_bh (pre : In_bh -> Bool) (fn : In_bh -> Out_bh) : Prop := Sound Try.prog 151 ⟨M_bh, R_bh, pre, fn⟩
section
variable (g_be : In_be -> Out_be)
abbrev X_bh : Ctx := ctx tys 9 (conOf [(20, ⟨M_be, R_be, fun _ => true, g_be⟩)]) (keepOf []) (fun _ => [])
noncomputable abbrev E_bh (k : Nat) (x : In_bh) : Option Out_bh := evFn (X_bh g_be) Try.f151 R_bh M_bh k x
variable {g_be}
theorem ev_bh (k : Nat) (x0 : Dm (.imm S_DecDec)) (x1 : Dm (.pR S_TstTest)) : E_bh g_be k (x0, x1, ()) =
  (some ((bif (g_be (x1.1, (x0, ()))).1 then false else true), ())) := by kernel_rfl
theorem S_bh (h_be : C_be (fun _ => true) g_be) {pre : In_bh -> Bool} {fn : In_bh -> Out_bh} (hev : ∀ x, pre x = true -> ∃ k, E_bh g_be k x = some (fn x)) : C_bh pre fn := sound tysOk mixed (fn := Try.f151) rfl rfl rfl (.cons h_be .nil) _ hev
end
/-! bi: gIndexFunc_DecDec__iTstTest_told_c1 -/
abbrev M_bi : List Vm.Mode := [.imm L_DecDec, .clo 151 [S_TstTest]]
abbrev R_bi : List (RK × Sh) := [(.imm, I)]
abbrev In_bi : Type := (insSh M_bi).den
abbrev Out_bi : Type := (outSh R_bi M_bi).den
abbrev C_bi (pre : In_bi -> Bool) (fn : In_bi -> Out_bi) : Prop := Sound Try.prog 192 ⟨M_bi, R_bi, pre, fn⟩
section
variable (g_bh : In_bh -> Out_bh)
abbrev X_bi : Ctx := ctx tys 19 (conOf [(151, ⟨M_bh, R_bh, fun _ => true, g_bh⟩)]) (keepOf [(pt1, (⟨[(0, .asis), (1, .asis), (7, .asis), (8, .asis)], [(1000005000, .asis)], []⟩ : Keep))]) (fun _ => [])
noncomputable abbrev E_bi (k : Nat) (x : In_bi) : Option Out_bi := evFn (X_bi g_bh) Try.f192 R_bi M_bi k x
def h0_bi (x0 : Dm (.imm L_DecDec)) (x1 : Dm (.clo 151 [S_TstTest])) (h0 : Dn I) (h1 : Dn I) : St := mkS [(0, (AV.val L_DecDec x0)), (1, (AV.fn 151 [1000005000])), (7, (AV.val I h0)), (8, (AV.val I h1))] [(1000005000, (Ob.cbox S_TstTest x1.1))]
noncomputable def r_bi (x : In_bi) (k : Nat) (p : List Bool) (s : St) : Option Out_bi := rounds (X_bi g_bh) Try.f192 R_bi M_bi x k p s
variable {g_bh}
theorem ev_bi (k : Nat) (x0 : Dm (.imm L_DecDec)) (x1 : Dm (.clo 151 [S_TstTest])) : E_bi g_bh k (x0, x1, ()) =
  (r_bi g_bh (x0, x1, ()) k pt1 (h0_bi x0 x1 (List.length x0 : Int) (0 : Int))) := by kernel_rfl
theorem rd0_bi (k : Nat) (x0 : Dm (.imm L_DecDec)) (x1 : Dm (.clo 151 [S_TstTest])) (h0 : Dn I) (h1 : Dn I) : r_bi g_bh (x0, x1, ()) (k + 1) pt1 (h0_bi x0 x1 h0 h1) =
  (bif (decide (h1 < h0)) then (bif (bif (decide ((0 : Int) <= h1)) then (decide (h1 < (List.length x0 : Int))) else false) then (bif (g_bh ((rdL (e := S_DecDec) x0 h1), (x1.1, ()))).1 then (some (h1, ())) else (r_bi g_bh (x0, x1, ()) k pt1 (h0_bi x0 x1 h0 (w64 (h1 + (1 : Int)))))) else none) else (some ((-1 : Int), ()))) := by kernel_rfl
theorem S_bi (h_bh : C_bh (fun _ => true) g_bh) {pre : In_bi -> Bool} {fn : In_bi -> Out_bi} (hev : ∀ x, pre x = true -> ∃ k, E_bi g_bh k x = some (fn x)) : C_bi pre fn := sound tysOk mixed (fn := Try.f192) rfl rfl rfl (.cons h_bh .nil) _ hev
end
/-! bj: gContainsFunc_DecDec__iTstTest_told_c1 -/
abbrev M_bj : List Vm.Mode := [.imm L_DecDec, .clo 151 [S_TstTest]]
abbrev R_bj : List (RK × Sh) := [(.imm, .bool)]
abbrev In_bj : Type := (insSh M_bj).den
abbrev Out_bj : Type := (outSh R_bj M_bj).den
abbrev C_bj (pre : In_bj -> Bool) (fn : In_bj -> Out_bj) : Prop := Sound Try.prog 149 ⟨M_bj, R_bj, pre, fn⟩
section
variable (g_bi : In_bi -> Out_bi) (p_bi : In_bi -> Bool)
abbrev X_bj : Ctx := ctx tys 9 (conOf [(192, ⟨M_bi, R_bi, p_bi, g_bi⟩)]) (keepOf []) (fun _ => [])
noncomputable abbrev E_bj (k : Nat) (x : In_bj) : Option Out_bj := evFn (X_bj g_bi p_bi) Try.f149 R_bj M_bj k x
variable {g_bi p_bi}
theorem ev_bj (k : Nat) (x0 : Dm (.imm L_DecDec)) (x1 : Dm (.clo 151 [S_TstTest])) : E_bj g_bi p_bi k (x0, x1, ()) =
  (bif (p_bi (x0, ((x1.1, ()), ()))) then (some ((decide ((0 : Int) <= (g_bi (x0, ((x1.1, ()), ()))).1)), ())) else none) := by kernel_rfl
theorem S_bj (h_bi : C_bi p_bi g_bi) {pre : In_bj -> Bool} {fn : In_bj -> Out_bj} (hev : ∀ x, pre x = true -> ∃ k, E_bj g_bi p_bi k x = some (fn x)) : C_bj pre fn := sound tysOk mixed (fn := Try.f149) rfl rfl rfl (.cons h_bi .nil) _ hev
end
/-! bk: iTstTest_told -/
abbrev M_bk : List Vm.Mode := [.imm S_TstTest]
abbrev R_bk : List (RK × Sh) := [(.imm, I)]
abbrev In_bk : Type := (insSh M_bk).den
abbrev Out_bk : Type := (outSh R_bk M_bk).den
abbrev C_bk (pre : In_bk -> Bool) (fn : In_bk -> Out_bk) : Prop := Sound Try.prog 85 ⟨M_bk, R_bk, pre, fn⟩
section
variable (g_be : In_be -> Out_be) (g_bd : In_bd -> Out_bd) (g_bg : In_bg -> Out_bg) (p_bg : In_bg -> Bool) (g_bj : In_bj -> Out_bj) (p_bj : In_bj -> Bool)
abbrev X_bk : Ctx := ctx tys 45 (conOf [(20, ⟨M_be, R_be, fun _ => true, g_be⟩), (30, ⟨M_bd, R_bd, fun _ => true, g_bd⟩), (89, ⟨M_bg, R_bg, p_bg, g_bg⟩), (149, ⟨M_bj, R_bj, p_bj, g_bj⟩)]) (keepOf []) (fun _ => [])
noncomputable abbrev E_bk (k : Nat) (x : In_bk) : Option Out_bk := evFn (X_bk g_be g_bd g_bg p_bg g_bj p_bj) Try.f85 R_bk M_bk k x
variable {g_be g_bd g_bg p_bg g_bj p_bj}
theorem ev_bk (k : Nat) (x0 : Dm (.imm S_TstTest)) : E_bk g_be g_bd g_bg p_bg g_bj p_bj k (x0, ()) =
  (bif (decide (x0.2.2.2.1 = (0 : Int))) then (bif (bif (g_be (x0.1, (x0.2.2.1, ()))).1 then false else true) then (some ((1 : Int), ())) else (bif (decide (x0.2.2.2.1 = (0 : Int))) then (some ((3 : Int), ())) else (bif (decide ((List.length x0.2.2.2.2 : Int) < (g_bd (x0.2.2.2.1, ())).1)) then (some ((2 : Int), ())) else (bif (bif (decide (x0.2.2.2.1 = (3 : Int))) then false else true) then (bif (p_bg (x0, ())) then (bif (g_be (x0.1, ((g_bg (x0, ())).1, ()))).1 then (bif (p_bj (x0.2.2.2.2, ((x0, ()), ()))) then (bif (bif (g_bj (x0.2.2.2.2, ((x0, ()), ()))).1 then false else true) then (some ((3 : Int), ())) else (some ((4 : Int), ()))) else none) else (some ((4 : Int), ()))) else none) else (some ((4 : Int), ())))))) else (bif (decide (x0.2.2.2.1 = (0 : Int))) then (some ((3 : Int), ())) else (bif (decide ((List.length x0.2.2.2.2 : Int) < (g_bd (x0.2.2.2.1, ())).1)) then (some ((2 : Int), ())) else (bif (bif (decide (x0.2.2.2.1 = (3 : Int))) then false else true) then (bif (p_bg (x0, ())) then (bif (g_be (x0.1, ((g_bg (x0, ())).1, ()))).1 then (bif (p_bj (x0.2.2.2.2, ((x0, ()), ()))) then (bif (bif (g_bj (x0.2.2.2.2, ((x0, ()), ()))).1 then false else true) then (some ((3 : Int), ())) else (some ((4 : Int), ()))) else none) else (some ((4 : Int), ()))) else none) else (some ((4 : Int), ())))))) := by kernel_rfl
theorem S_bk (h_be : C_be (fun _ => true) g_be) (h_bd : C_bd (fun _ => true) g_bd) (h_bg : C_bg p_bg g_bg) (h_bj : C_bj p_bj g_bj) {pre : In_bk -> Bool} {fn : In_bk -> Out_bk} (hev : ∀ x, pre x = true -> ∃ k, E_bk g_be g_bd g_bg p_bg g_bj p_bj k x = some (fn x)) : C_bk pre fn := sound tysOk mixed (fn := Try.f85) rfl rfl rfl (.cons h_be (.cons h_bd (.cons h_bg (.cons h_bj .nil)))) _ hev
end
/-! bl: iTstOk -/
abbrev M_bl : List Vm.Mode := [.imm S_TstTest]
abbrev R_bl : List (RK × Sh) := [(.imm, .bool)]
abbrev In_bl : Type := (insSh M_bl).den
abbrev Out_bl : Type := (outSh R_bl M_bl).den
abbrev C_bl (pre : In_bl -> Bool) (fn : In_bl -> Out_bl) : Prop := Sound Try.prog 21 ⟨M_bl, R_bl, pre, fn⟩
section
variable (g_b8 : In_b8 -> Out_b8) (g_b2 : In_b2 -> Out_b2) (g_bc : In_bc -> Out_bc) (p_bc : In_bc -> Bool) (g_iin : In_iin -> Out_iin) (g_bd : In_bd -> Out_bd) (g_bk : In_bk -> Out_bk) (p_bk : In_bk -> Bool) (g_be : In_be -> Out_be)
abbrev X_bl : Ctx := ctx tys 64 (conOf [(80, ⟨M_b8, R_b8, fun _ => true, g_b8⟩), (70, ⟨M_b2, R_b2, fun _ => true, g_b2⟩), (83, ⟨M_bc, R_bc, p_bc, g_bc⟩), (84, ⟨M_iin, R_iin, fun _ => true, g_iin⟩), (30, ⟨M_bd, R_bd, fun _ => true, g_bd⟩), (85, ⟨M_bk, R_bk, p_bk, g_bk⟩), (20, ⟨M_be, R_be, fun _ => true, g_be⟩)]) (keepOf []) (fun _ => [])
noncomputable abbrev E_bl (k : Nat) (x : In_bl) : Option Out_bl := evFn (X_bl g_b8 g_b2 g_bc p_bc g_iin g_bd g_bk p_bk g_be) Try.f21 R_bl M_bl k x
variable {g_b8 g_b2 g_bc p_bc g_iin g_bd g_bk p_bk g_be}
theorem ev_bl (k : Nat) (x0 : Dm (.imm S_TstTest)) : E_bl g_b8 g_b2 g_bc p_bc g_iin g_bd g_bk p_bk g_be k (x0, ()) =
  (bif (bif (g_b8 (x0.1, ())).1 then false else true) then (some (false, ())) else (bif (bif (g_b2 (x0.2.2.1, ())).1 then false else true) then (some (false, ())) else (bif (p_bc (x0.2.2.2.2, ())) then (bif (bif (g_bc (x0.2.2.2.2, ())).1 then false else true) then (some (false, ())) else (bif (bif (g_iin (x0.2.2.2.1, ((0 : Int), ((3 : Int), ())))).1 then false else true) then (some (false, ())) else (bif (decide ((g_bd (x0.2.2.2.1, ())).1 < (List.length x0.2.2.2.2 : Int))) then (some (false, ())) else (bif (decide (x0.2.1 = (0 : Int))) then (bif (Sh.beq S_DecDec x0.2.2.1 ((0 : Int), (0 : Int))) then (some ((decide (x0.2.2.2.1 = (0 : Int))), ())) else (some (false, ()))) else (bif (p_bk (x0, ())) then (bif (decide (x0.2.1 = (g_bk (x0, ())).1)) then (bif (decide (x0.2.2.2.1 = (0 : Int))) then (some (true, ())) else (some ((bif (g_be (x0.1, (x0.2.2.1, ()))).1 then false else true), ()))) else (some (false, ()))) else none))))) else none))) := by kernel_rfl
theorem S_bl (h_b8 : C_b8 (fun _ => true) g_b8) (h_b2 : C_b2 (fun _ => true) g_b2) (h_bc : C_bc p_bc g_bc) (h_iin : C_iin (fun _ => true) g_iin) (h_bd : C_bd (fun _ => true) g_bd) (h_bk : C_bk p_bk g_bk) (h_be : C_be (fun _ => true) g_be) {pre : In_bl -> Bool} {fn : In_bl -> Out_bl} (hev : ∀ x, pre x = true -> ∃ k, E_bl g_b8 g_b2 g_bc p_bc g_iin g_bd g_bk p_bk g_be k x = some (fn x)) : C_bl pre fn := sound tysOk mixed (fn := Try.f21) rfl rfl rfl (.cons h_b8 (.cons h_b2 (.cons h_bc (.cons h_iin (.cons h_bd (.cons h_bk (.cons h_be .nil))))))) _ hev
end
/-! bm: iisUser -/
abbrev M_bm : List Vm.Mode := [.imm I]
abbrev R_bm : List (RK × Sh) := [(.imm, .bool)]
abbrev In_bm : Type := (insSh M_bm).den
abbrev Out_bm : Type := (outSh R_bm M_bm).den
abbrev C_bm (pre : In_bm -> Bool) (fn : In_bm -> Out_bm) : Prop := Sound Try.prog 161 ⟨M_bm, R_bm, pre, fn⟩
section
variable (g_iin : In_iin -> Out_iin)
abbrev X_bm : Ctx := ctx tys 5 (conOf [(84, ⟨M_iin, R_iin, fun _ => true, g_iin⟩)]) (keepOf []) (fun _ => [])
noncomputable abbrev E_bm (k : Nat) (x : In_bm) : Option Out_bm := evFn (X_bm g_iin) Try.f161 R_bm M_bm k x
variable {g_iin}
theorem ev_bm (k : Nat) (x0 : Dm (.imm I)) : E_bm g_iin k (x0, ()) =
  (some ((g_iin (x0, ((1 : Int), ((5 : Int), ())))).1, ())) := by kernel_rfl
theorem S_bm (h_iin : C_iin (fun _ => true) g_iin) {pre : In_bm -> Bool} {fn : In_bm -> Out_bm} (hev : ∀ x, pre x = true -> ∃ k, E_bm g_iin k x = some (fn x)) : C_bm pre fn := sound tysOk mixed (fn := Try.f161) rfl rfl rfl (.cons h_iin .nil) _ hev
end
/-! bn: isigns -/
abbrev M_bn : List Vm.Mode := [.imm I]
abbrev R_bn : List (RK × Sh) := [(.imm, .bool)]
abbrev In_bn : Type := (insSh M_bn).den
abbrev Out_bn : Type := (outSh R_bn M_bn).den
abbrev C_bn (pre : In_bn -> Bool) (fn : In_bn -> Out_bn) : Prop := Sound Try.prog 162 ⟨M_bn, R_bn, pre, fn⟩
abbrev X_bn : Ctx := ctx tys 9 (conOf []) (keepOf []) (fun _ => [])
noncomputable abbrev E_bn (k : Nat) (x : In_bn) : Option Out_bn := evFn X_bn Try.f162 R_bn M_bn k x
theorem ev_bn (k : Nat) (x0 : Dm (.imm I)) : E_bn k (x0, ()) =
  (bif (decide (x0 = (2 : Int))) then (some (true, ())) else (some ((decide (x0 = (3 : Int))), ()))) := by kernel_rfl
theorem S_bn  {pre : In_bn -> Bool} {fn : In_bn -> Out_bn} (hev : ∀ x, pre x = true -> ∃ k, E_bn k x = some (fn x)) : C_bn pre fn := sound tysOk mixed (fn := Try.f162) rfl rfl rfl ConsOk.nil _ hev
/-! bo: iBatSig_ok -/
abbrev M_bo : List Vm.Mode := [.imm S_DayDay]
abbrev R_bo : List (RK × Sh) := [(.imm, .bool)]
abbrev In_bo : Type := (insSh M_bo).den
abbrev Out_bo : Type := (outSh R_bo M_bo).den
abbrev C_bo (pre : In_bo -> Bool) (fn : In_bo -> Out_bo) : Prop := Sound Try.prog 112 ⟨M_bo, R_bo, pre, fn⟩
section
variable (g_bm : In_bm -> Out_bm) (g_bn : In_bn -> Out_bn) (g_iin : In_iin -> Out_iin)
abbrev X_bo : Ctx := ctx tys 16 (conOf [(161, ⟨M_bm, R_bm, fun _ => true, g_bm⟩), (162, ⟨M_bn, R_bn, fun _ => true, g_bn⟩), (84, ⟨M_iin, R_iin, fun _ => true, g_iin⟩)]) (keepOf []) (fun _ => [])
noncomputable abbrev E_bo (k : Nat) (x : In_bo) : Option Out_bo := evFn (X_bo g_bm g_bn g_iin) Try.f112 R_bo M_bo k x
variable {g_bm g_bn g_iin}
theorem ev_bo (k : Nat) (x0 : Dm (.imm S_DayDay)) : E_bo g_bm g_bn g_iin k (x0, ()) =
  (bif (g_bm (x0.1, ())).1 then (bif (g_bn (x0.2.1, ())).1 then (some ((g_iin (x0.2.2, ((0 : Int), ((999982 : Int), ())))).1, ())) else (some (false, ()))) else (some (false, ()))) := by kernel_rfl
theorem S_bo (h_bm : C_bm (fun _ => true) g_bm) (h_bn : C_bn (fun _ => true) g_bn) (h_iin : C_iin (fun _ => true) g_iin) {pre : In_bo -> Bool} {fn : In_bo -> Out_bo} (hev : ∀ x, pre x = true -> ∃ k, E_bo g_bm g_bn g_iin k x = some (fn x)) : C_bo pre fn := sound tysOk mixed (fn := Try.f112) rfl rfl rfl (.cons h_bm (.cons h_bn (.cons h_iin .nil))) _ hev
end
/-! bp: iBatOk_c1 -/
abbrev M_bp : List Vm.Mode := [.imm S_DayDay]
abbrev R_bp : List (RK × Sh) := [(.imm, .bool)]
abbrev In_bp : Type := (insSh M_bp).den
abbrev Out_bp : Type := (outSh R_bp M_bp).den
abbrev C_bp (pre : In_bp -> Bool) (fn : In_bp -> Out_bp) : Prop := Sound Try.prog 111 ⟨M_bp, R_bp, pre, fn⟩
section
variable (g_bo : In_bo -> Out_bo)
abbrev X_bp : Ctx := ctx tys 6 (conOf [(112, ⟨M_bo, R_bo, fun _ => true, g_bo⟩)]) (keepOf []) (fun _ => [])
noncomputable abbrev E_bp (k : Nat) (x : In_bp) : Option Out_bp := evFn (X_bp g_bo) Try.f111 R_bp M_bp k x
variable {g_bo}
theorem ev_bp (k : Nat) (x0 : Dm (.imm S_DayDay)) : E_bp g_bo k (x0, ()) =
  (some ((bif (g_bo (x0, ())).1 then false else true), ())) := by kernel_rfl
theorem S_bp (h_bo : C_bo (fun _ => true) g_bo) {pre : In_bp -> Bool} {fn : In_bp -> Out_bp} (hev : ∀ x, pre x = true -> ∃ k, E_bp g_bo k x = some (fn x)) : C_bp pre fn := sound tysOk mixed (fn := Try.f111) rfl rfl rfl (.cons h_bo .nil) _ hev
end
/-! bq: gIndexFunc_BatSig__iBatOk_c1 -/
abbrev M_bq : List Vm.Mode := [.imm L_BatSig, .clo 111 []]
abbrev R_bq : List (RK × Sh) := [(.imm, I)]
abbrev In_bq : Type := (insSh M_bq).den
abbrev Out_bq : Type := (outSh R_bq M_bq).den
abbrev C_bq (pre : In_bq -> Bool) (fn : In_bq -> Out_bq) : Prop := Sound Try.prog 163 ⟨M_bq, R_bq, pre, fn⟩
section
variable (g_bp : In_bp -> Out_bp) (p_bp : In_bp -> Bool)
abbrev X_bq : Ctx := ctx tys 19 (conOf [(111, ⟨M_bp, R_bp, p_bp, g_bp⟩)]) (keepOf [(pt1, (⟨[(0, .asis), (1, .asis), (7, .asis), (8, .asis)], [], []⟩ : Keep))]) (fun _ => [])
noncomputable abbrev E_bq (k : Nat) (x : In_bq) : Option Out_bq := evFn (X_bq g_bp p_bp) Try.f163 R_bq M_bq k x
def h0_bq (x0 : Dm (.imm L_BatSig)) (x1 : Dm (.clo 111 [])) (h0 : Dn I) (h1 : Dn I) : St := mkS [(0, (AV.val L_BatSig x0)), (1, (AV.fn 111 [])), (7, (AV.val I h0)), (8, (AV.val I h1))] []
noncomputable def r_bq (x : In_bq) (k : Nat) (p : List Bool) (s : St) : Option Out_bq := rounds (X_bq g_bp p_bp) Try.f163 R_bq M_bq x k p s
variable {g_bp p_bp}
theorem ev_bq (k : Nat) (x0 : Dm (.imm L_BatSig)) (x1 : Dm (.clo 111 [])) : E_bq g_bp p_bp k (x0, x1, ()) =
  (r_bq g_bp p_bp (x0, x1, ()) k pt1 (h0_bq x0 x1 (List.length x0 : Int) (0 : Int))) := by kernel_rfl
theorem rd0_bq (k : Nat) (x0 : Dm (.imm L_BatSig)) (x1 : Dm (.clo 111 [])) (h0 : Dn I) (h1 : Dn I) : r_bq g_bp p_bp (x0, x1, ()) (k + 1) pt1 (h0_bq x0 x1 h0 h1) =
  (bif (decide (h1 < h0)) then (bif (bif (decide ((0 : Int) <= h1)) then (decide (h1 < (List.length x0 : Int))) else false) then (cl (p_bp ((rdL (e := S_DayDay) x0 h1), ())) (g_bp ((rdL (e := S_DayDay) x0 h1), ())) fun y0 => (bif y0.1 then (some (h1, ())) else (r_bq g_bp p_bp (x0, x1, ()) k pt1 (h0_bq x0 x1 h0 (w64 (h1 + (1 : Int))))))) else none) else (some ((-1 : Int), ()))) := by kernel_rfl
theorem S_bq (h_bp : C_bp p_bp g_bp) {pre : In_bq -> Bool} {fn : In_bq -> Out_bq} (hev : ∀ x, pre x = true -> ∃ k, E_bq g_bp p_bp k x = some (fn x)) : C_bq pre fn := sound tysOk mixed (fn := Try.f163) rfl rfl rfl (.cons h_bp .nil) _ hev
end
/-! br: gContainsFunc_BatSig__iBatOk_c1 -/
abbrev M_br : List Vm.Mode := [.imm L_BatSig, .clo 111 []]
abbrev R_br : List (RK × Sh) := [(.imm, .bool)]
abbrev In_br : Type := (insSh M_br).den
abbrev Out_br : Type := (outSh R_br M_br).den
abbrev C_br (pre : In_br -> Bool) (fn : In_br -> Out_br) : Prop := Sound Try.prog 113 ⟨M_br, R_br, pre, fn⟩
section
variable (g_bq : In_bq -> Out_bq) (p_bq : In_bq -> Bool)
abbrev X_br : Ctx := ctx tys 9 (conOf [(163, ⟨M_bq, R_bq, p_bq, g_bq⟩)]) (keepOf []) (fun _ => [])
noncomputable abbrev E_br (k : Nat) (x : In_br) : Option Out_br := evFn (X_br g_bq p_bq) Try.f113 R_br M_br k x
variable {g_bq p_bq}
theorem ev_br (k : Nat) (x0 : Dm (.imm L_BatSig)) (x1 : Dm (.clo 111 [])) : E_br g_bq p_bq k (x0, x1, ()) =
  (cl (p_bq (x0, ((), ()))) (g_bq (x0, ((), ()))) fun y0 => (some ((decide ((0 : Int) <= y0.1)), ()))) := by kernel_rfl
theorem S_br (h_bq : C_bq p_bq g_bq) {pre : In_br -> Bool} {fn : In_br -> Out_br} (hev : ∀ x, pre x = true -> ∃ k, E_br g_bq p_bq k x = some (fn x)) : C_br pre fn := sound tysOk mixed (fn := Try.f113) rfl rfl rfl (.cons h_bq .nil) _ hev
end
/-! bs: iBatBatch_gate_c1 -/
abbrev M_bs : List Vm.Mode := [.imm S_TstTest]
abbrev R_bs : List (RK × Sh) := [(.imm, .bool)]
abbrev In_bs : Type := (insSh M_bs).den
abbrev Out_bs : Type := (outSh R_bs M_bs).den
abbrev C_bs (pre : In_bs -> Bool) (fn : In_bs -> Out_bs) : Prop := Sound Try.prog 164 ⟨M_bs, R_bs, pre, fn⟩
abbrev X_bs : Ctx := ctx tys 6 (conOf []) (keepOf []) (fun _ => [])
noncomputable abbrev E_bs (k : Nat) (x : In_bs) : Option Out_bs := evFn X_bs Try.f164 R_bs M_bs k x
theorem ev_bs (k : Nat) (x0 : Dm (.imm S_TstTest)) : E_bs k (x0, ()) =
  (some ((bif (decide (x0.2.1 = (3 : Int))) then false else true), ())) := by kernel_rfl
theorem S_bs  {pre : In_bs -> Bool} {fn : In_bs -> Out_bs} (hev : ∀ x, pre x = true -> ∃ k, E_bs k x = some (fn x)) : C_bs pre fn := sound tysOk mixed (fn := Try.f164) rfl rfl rfl ConsOk.nil _ hev
/-! bt: gIndexFunc_TstTest__iBatBatch_gate_c1 -/
abbrev M_bt : List Vm.Mode := [.imm L_TstTest, .clo 164 []]
abbrev R_bt : List (RK × Sh) := [(.imm, I)]
abbrev In_bt : Type := (insSh M_bt).den
abbrev Out_bt : Type := (outSh R_bt M_bt).den
abbrev C_bt (pre : In_bt -> Bool) (fn : In_bt -> Out_bt) : Prop := Sound Try.prog 195 ⟨M_bt, R_bt, pre, fn⟩
section
variable (g_bs : In_bs -> Out_bs)
abbrev X_bt : Ctx := ctx tys 19 (conOf [(164, ⟨M_bs, R_bs, fun _ => true, g_bs⟩)]) (keepOf [(pt1, (⟨[(0, .asis), (1, .asis), (7, .asis), (8, .asis)], [], []⟩ : Keep))]) (fun _ => [])
noncomputable abbrev E_bt (k : Nat) (x : In_bt) : Option Out_bt := evFn (X_bt g_bs) Try.f195 R_bt M_bt k x
def h0_bt (x0 : Dm (.imm L_TstTest)) (x1 : Dm (.clo 164 [])) (h0 : Dn I) (h1 : Dn I) : St := mkS [(0, (AV.val L_TstTest x0)), (1, (AV.fn 164 [])), (7, (AV.val I h0)), (8, (AV.val I h1))] []
noncomputable def r_bt (x : In_bt) (k : Nat) (p : List Bool) (s : St) : Option Out_bt := rounds (X_bt g_bs) Try.f195 R_bt M_bt x k p s
variable {g_bs}
theorem ev_bt (k : Nat) (x0 : Dm (.imm L_TstTest)) (x1 : Dm (.clo 164 [])) : E_bt g_bs k (x0, x1, ()) =
  (r_bt g_bs (x0, x1, ()) k pt1 (h0_bt x0 x1 (List.length x0 : Int) (0 : Int))) := by kernel_rfl
theorem rd0_bt (k : Nat) (x0 : Dm (.imm L_TstTest)) (x1 : Dm (.clo 164 [])) (h0 : Dn I) (h1 : Dn I) : r_bt g_bs (x0, x1, ()) (k + 1) pt1 (h0_bt x0 x1 h0 h1) =
  (bif (decide (h1 < h0)) then (bif (bif (decide ((0 : Int) <= h1)) then (decide (h1 < (List.length x0 : Int))) else false) then (bif (g_bs ((rdL (e := S_TstTest) x0 h1), ())).1 then (some (h1, ())) else (r_bt g_bs (x0, x1, ()) k pt1 (h0_bt x0 x1 h0 (w64 (h1 + (1 : Int)))))) else none) else (some ((-1 : Int), ()))) := by kernel_rfl
theorem S_bt (h_bs : C_bs (fun _ => true) g_bs) {pre : In_bt -> Bool} {fn : In_bt -> Out_bt} (hev : ∀ x, pre x = true -> ∃ k, E_bt g_bs k x = some (fn x)) : C_bt pre fn := sound tysOk mixed (fn := Try.f195) rfl rfl rfl (.cons h_bs .nil) _ hev
end
/-! bu: gContainsFunc_TstTest__iBatBatch_gate_c1 -/
abbrev M_bu : List Vm.Mode := [.imm L_TstTest, .clo 164 []]
abbrev R_bu : List (RK × Sh) := [(.imm, .bool)]
abbrev In_bu : Type := (insSh M_bu).den
abbrev Out_bu : Type := (outSh R_bu M_bu).den
abbrev C_bu (pre : In_bu -> Bool) (fn : In_bu -> Out_bu) : Prop := Sound Try.prog 165 ⟨M_bu, R_bu, pre, fn⟩
section
variable (g_bt : In_bt -> Out_bt) (p_bt : In_bt -> Bool)
abbrev X_bu : Ctx := ctx tys 9 (conOf [(195, ⟨M_bt, R_bt, p_bt, g_bt⟩)]) (keepOf []) (fun _ => [])
noncomputable abbrev E_bu (k : Nat) (x : In_bu) : Option Out_bu := evFn (X_bu g_bt p_bt) Try.f165 R_bu M_bu k x
variable {g_bt p_bt}
theorem ev_bu (k : Nat) (x0 : Dm (.imm L_TstTest)) (x1 : Dm (.clo 164 [])) : E_bu g_bt p_bt k (x0, x1, ()) =
  (cl (p_bt (x0, ((), ()))) (g_bt (x0, ((), ()))) fun y0 => (some ((decide ((0 : Int) <= y0.1)), ()))) := by kernel_rfl
theorem S_bu (h_bt : C_bt p_bt g_bt) {pre : In_bu -> Bool} {fn : In_bu -> Out_bu} (hev : ∀ x, pre x = true -> ∃ k, E_bu g_bt p_bt k x = some (fn x)) : C_bu pre fn := sound tysOk mixed (fn := Try.f165) rfl rfl rfl (.cons h_bt .nil) _ hev
end
/-! bv: gIndex_bool -/
abbrev M_bv : List Vm.Mode := [.imm L_bool, .imm .bool]
abbrev R_bv : List (RK × Sh) := [(.imm, I)]
abbrev In_bv : Type := (insSh M_bv).den
abbrev Out_bv : Type := (outSh R_bv M_bv).den
abbrev C_bv (pre : In_bv -> Bool) (fn : In_bv -> Out_bv) : Prop := Sound Try.prog 196 ⟨M_bv, R_bv, pre, fn⟩
abbrev X_bv : Ctx := ctx tys 19 (conOf []) (keepOf [(pt1, (⟨[(0, .asis), (1, .asis), (7, .asis), (8, .asis)], [], []⟩ : Keep))]) (fun _ => [])
noncomputable abbrev E_bv (k : Nat) (x : In_bv) : Option Out_bv := evFn X_bv Try.f196 R_bv M_bv k x
def h0_bv (x0 : Dm (.imm L_bool)) (x1 : Dm (.imm .bool)) (h0 : Dn I) (h1 : Dn I) : St := mkS [(0, (AV.val L_bool x0)), (1, (AV.val Sh.bool x1)), (7, (AV.val I h0)), (8, (AV.val I h1))] []
noncomputable def r_bv (x : In_bv) (k : Nat) (p : List Bool) (s : St) : Option Out_bv := rounds X_bv Try.f196 R_bv M_bv x k p s
theorem ev_bv (k : Nat) (x0 : Dm (.imm L_bool)) (x1 : Dm (.imm .bool)) : E_bv k (x0, x1, ()) =
  (r_bv  (x0, x1, ()) k pt1 (h0_bv x0 x1 (List.length x0 : Int) (0 : Int))) := by kernel_rfl
theorem rd0_bv (k : Nat) (x0 : Dm (.imm L_bool)) (x1 : Dm (.imm .bool)) (h0 : Dn I) (h1 : Dn I) : r_bv  (x0, x1, ()) (k + 1) pt1 (h0_bv x0 x1 h0 h1) =
  (bif (decide (h1 < h0)) then (bif (bif (decide ((0 : Int) <= h1)) then (decide (h1 < (List.length x0 : Int))) else false) then (bif (x1 == (rdL (e := Sh.bool) x0 h1)) then (some (h1, ())) else (r_bv  (x0, x1, ()) k pt1 (h0_bv x0 x1 h0 (w64 (h1 + (1 : Int)))))) else none) else (some ((-1 : Int), ()))) := by kernel_rfl
theorem S_bv  {pre : In_bv -> Bool} {fn : In_bv -> Out_bv} (hev : ∀ x, pre x = true -> ∃ k, E_bv k x = some (fn x)) : C_bv pre fn := sound tysOk mixed (fn := Try.f196) rfl rfl rfl ConsOk.nil _ hev
/-! bw: gContains_bool -/
abbrev M_bw : List Vm.Mode := [.imm L_bool, .imm .bool]
abbrev R_bw : List (RK × Sh) := [(.imm, .bool)]
abbrev In_bw : Type := (insSh M_bw).den
abbrev Out_bw : Type := (outSh R_bw M_bw).den
abbrev C_bw (pre : In_bw -> Bool) (fn : In_bw -> Out_bw) : Prop := Sound Try.prog 166 ⟨M_bw, R_bw, pre, fn⟩
section
variable (g_bv : In_bv -> Out_bv) (p_bv : In_bv -> Bool)
abbrev X_bw : Ctx := ctx tys 9 (conOf [(196, ⟨M_bv, R_bv, p_bv, g_bv⟩)]) (keepOf []) (fun _ => [])
noncomputable abbrev E_bw (k : Nat) (x : In_bw) : Option Out_bw := evFn (X_bw g_bv p_bv) Try.f166 R_bw M_bw k x
variable {g_bv p_bv}
theorem ev_bw (k : Nat) (x0 : Dm (.imm L_bool)) (x1 : Dm (.imm .bool)) : E_bw g_bv p_bv k (x0, x1, ()) =
  (cl (p_bv (x0, (x1, ()))) (g_bv (x0, (x1, ()))) fun y0 => (some ((decide ((0 : Int) <= y0.1)), ()))) := by kernel_rfl
theorem S_bw (h_bv : C_bv p_bv g_bv) {pre : In_bw -> Bool} {fn : In_bw -> Out_bw} (hev : ∀ x, pre x = true -> ∃ k, E_bw g_bv p_bv k x = some (fn x)) : C_bw pre fn := sound tysOk mixed (fn := Try.f166) rfl rfl rfl (.cons h_bv .nil) _ hev
end
/-! bx: imixed -/
abbrev M_bx : List Vm.Mode := [.imm I, .imm L_int]
abbrev R_bx : List (RK × Sh) := [(.imm, I)]
abbrev In_bx : Type := (insSh M_bx).den
abbrev Out_bx : Type := (outSh R_bx M_bx).den
abbrev C_bx (pre : In_bx -> Bool) (fn : In_bx -> Out_bx) : Prop := Sound Try.prog 187 ⟨M_bx, R_bx, pre, fn⟩
abbrev X_bx : Ctx := ctx tys 23 (conOf []) (keepOf [(pt1, (⟨[(0, .asis), (7, .asis), (8, .asis), (9, .asis)], [], []⟩ : Keep))]) (fun _ => [])
noncomputable abbrev E_bx (k : Nat) (x : In_bx) : Option Out_bx := evFn X_bx Try.f187 R_bx M_bx k x
def h0_bx (x0 : Dm (.imm I)) (x1 : Dm (.imm L_int)) (h0 : Dn I) (h1 : Dn I) (h2 : Dn I) : St := mkS [(0, (AV.val I h0)), (7, (AV.val L_int x1)), (8, (AV.val I h1)), (9, (AV.val I h2))] []
noncomputable def r_bx (x : In_bx) (k : Nat) (p : List Bool) (s : St) : Option Out_bx := rounds X_bx Try.f187 R_bx M_bx x k p s
theorem ev_bx (k : Nat) (x0 : Dm (.imm I)) (x1 : Dm (.imm L_int)) : E_bx k (x0, x1, ()) =
  (r_bx  (x0, x1, ()) k pt1 (h0_bx x0 x1 x0 (List.length x1 : Int) (0 : Int))) := by kernel_rfl
theorem rd0_bx (k : Nat) (x0 : Dm (.imm I)) (x1 : Dm (.imm L_int)) (h0 : Dn I) (h1 : Dn I) (h2 : Dn I) : r_bx  (x0, x1, ()) (k + 1) pt1 (h0_bx x0 x1 h0 h1 h2) =
  (bif (decide (h2 < h1)) then (bif (bif (decide ((0 : Int) <= h2)) then (decide (h2 < (List.length x1 : Int))) else false) then (bif (bif (decide ((999983 : Int) = (0 : Int))) then false else true) then (bif (bif (decide ((999983 : Int) = (0 : Int))) then false else true) then (r_bx  (x0, x1, ()) k pt1 (h0_bx x0 x1 (Int.tmod (w64 ((w64 ((w64 ((w64 (h0 * (8191 : Int))) + (Int.tmod (rdL (e := I) x1 h2) (999983 : Int)))) + (999983 : Int))) + (7 : Int))) (999983 : Int)) h1 (w64 (h2 + (1 : Int))))) else none) else none) else none) else (some (h0, ()))) := by kernel_rfl
theorem S_bx  {pre : In_bx -> Bool} {fn : In_bx -> Out_bx} (hev : ∀ x, pre x = true -> ∃ k, E_bx k x = some (fn x)) : C_bx pre fn := sound tysOk mixed (fn := Try.f187) rfl rfl rfl ConsOk.nil _ hev
/-! by: iBatMark -/
abbrev M_by : List Vm.Mode := [.imm S_BatBatch]
abbrev R_by : List (RK × Sh) := [(.imm, I)]
abbrev In_by : Type := (insSh M_by).den
abbrev Out_by : Type := (outSh R_by M_by).den
abbrev C_by (pre : In_by -> Bool) (fn : In_by -> Out_by) : Prop := Sound Try.prog 133 ⟨M_by, R_by, pre, fn⟩
section
variable (g_bx : In_bx -> Out_bx) (p_bx : In_bx -> Bool)
abbrev X_by : Ctx := ctx tys 69 (conOf [(187, ⟨M_bx, R_bx, p_bx, g_bx⟩)]) (keepOf [(pt2, (⟨[(3, .asis), (51, .asis), (52, .asis), (53, .asis)], [], []⟩ : Keep)), (pt8, (⟨[(1, .asis), (3, .asis), (15, .asis), (16, .asis), (17, .asis), (35, .asis), (36, .asis), (37, .asis)], [(1, .asis)], []⟩ : Keep)), (pt0, (⟨[(1, .asis), (3, .asis), (15, .asis), (16, .asis), (17, .asis)], [(1, .asis)], []⟩ : Keep))]) (fun _ => [])
noncomputable abbrev E_by (k : Nat) (x : In_by) : Option Out_by := evFn (X_by g_bx p_bx) Try.f133 R_by M_by k x
def h0_by (x0 : Dm (.imm S_BatBatch)) (h0 : Dn I) (h1 : Dn I) (h2 : Dn I) : St := mkS [(1, (AV.ptr 1 none [])), (3, (AV.val I h0)), (15, (AV.val L_TstTest x0.2.2.1)), (16, (AV.val I h1)), (17, (AV.val I h2))] [(1, (Ob.box S_BatBatch (AV.val S_BatBatch x0)))]
def h1_by (x0 : Dm (.imm S_BatBatch)) (h0 : Dn I) (h1 : Dn I) (h2 : Dn I) (h3 : Dn L_DecDec) (h4 : Dn I) (h5 : Dn I) : St := mkS [(1, (AV.ptr 1 none [])), (3, (AV.val I h0)), (15, (AV.val L_TstTest x0.2.2.1)), (16, (AV.val I h1)), (17, (AV.val I h2)), (35, (AV.val L_DecDec h3)), (36, (AV.val I h4)), (37, (AV.val I h5))] [(1, (Ob.box S_BatBatch (AV.val S_BatBatch x0)))]
def h2_by (x0 : Dm (.imm S_BatBatch)) (h0 : Dn I) (h1 : Dn I) (h2 : Dn I) : St := mkS [(3, (AV.val I h0)), (51, (AV.val L_bool x0.2.2.2.2.2)), (52, (AV.val I h1)), (53, (AV.val I h2))] []
noncomputable def r_by (x : In_by) (k : Nat) (p : List Bool) (s : St) : Option Out_by := rounds (X_by g_bx p_bx) Try.f133 R_by M_by x k p s
variable {g_bx p_bx}
theorem ev_by (k : Nat) (x0 : Dm (.imm S_BatBatch)) : E_by g_bx p_bx k (x0, ()) =
  (cl (p_bx ((1 : Int), ([x0.1], ()))) (g_bx ((1 : Int), ([x0.1], ()))) fun y0 => (r_by g_bx p_bx (x0, ()) k pt0 (h0_by x0 (y0.1) (List.length x0.2.2.1 : Int) (0 : Int)))) := by kernel_rfl
theorem rd0_by (k : Nat) (x0 : Dm (.imm S_BatBatch)) (h0 : Dn I) (h1 : Dn I) (h2 : Dn I) : r_by g_bx p_bx (x0, ()) (k + 1) pt0 (h0_by x0 h0 h1 h2) =
  (lt (rdL (e := S_TstTest) x0.2.2.1 h2) fun s0 => (bif (decide (h2 < h1)) then (bif (bif (decide ((0 : Int) <= h2)) then (decide (h2 < (List.length x0.2.2.1 : Int))) else false) then (cl (p_bx (h0, ([(s0.2.1), (s0.2.2.1.1), (s0.2.2.1.2), (s0.2.2.2.1)], ()))) (g_bx (h0, ([(s0.2.1), (s0.2.2.1.1), (s0.2.2.1.2), (s0.2.2.2.1)], ()))) fun y0 => (r_by g_bx p_bx (x0, ()) k pt8 (h1_by x0 (y0.1) h1 h2 (s0.2.2.2.2) (List.length s0.2.2.2.2 : Int) (0 : Int)))) else none) else (r_by g_bx p_bx (x0, ()) k pt2 (h2_by x0 h0 (List.length x0.2.2.2.2.2 : Int) (0 : Int))))) := by kernel_rfl
theorem rd1_by (k : Nat) (x0 : Dm (.imm S_BatBatch)) (h0 : Dn I) (h1 : Dn I) (h2 : Dn I) (h3 : Dn L_DecDec) (h4 : Dn I) (h5 : Dn I) : r_by g_bx p_bx (x0, ()) (k + 1) pt8 (h1_by x0 h0 h1 h2 h3 h4 h5) =
  (bif (decide (h5 < h4)) then (bif (bif (decide ((0 : Int) <= h5)) then (decide (h5 < (List.length h3 : Int))) else false) then (cl (p_bx (h0, ([((rdL (e := S_DecDec) h3 h5).1), ((rdL (e := S_DecDec) h3 h5).2)], ()))) (g_bx (h0, ([((rdL (e := S_DecDec) h3 h5).1), ((rdL (e := S_DecDec) h3 h5).2)], ()))) fun y0 => (r_by g_bx p_bx (x0, ()) k pt8 (h1_by x0 (y0.1) h1 h2 h3 h4 (w64 (h5 + (1 : Int)))))) else none) else (r_by g_bx p_bx (x0, ()) k pt0 (h0_by x0 h0 h1 (w64 (h2 + (1 : Int)))))) := by kernel_rfl
theorem rd2_by (k : Nat) (x0 : Dm (.imm S_BatBatch)) (h0 : Dn I) (h1 : Dn I) (h2 : Dn I) : r_by g_bx p_bx (x0, ()) (k + 1) pt2 (h2_by x0 h0 h1 h2) =
  (bif (decide (h2 < h1)) then (bif (bif (decide ((0 : Int) <= h2)) then (decide (h2 < (List.length x0.2.2.2.2.2 : Int))) else false) then (cl (p_bx (h0, ([(w64 (h2 + (1 : Int)))], ()))) (g_bx (h0, ([(w64 (h2 + (1 : Int)))], ()))) fun y0 => (bif (rdL (e := Sh.bool) x0.2.2.2.2.2 h2) then (cl (p_bx (y0.1, ([(77 : Int)], ()))) (g_bx (y0.1, ([(77 : Int)], ()))) fun y1 => (r_by g_bx p_bx (x0, ()) k pt2 (h2_by x0 (y1.1) h1 (w64 (h2 + (1 : Int)))))) else (r_by g_bx p_bx (x0, ()) k pt2 (h2_by x0 (y0.1) h1 (w64 (h2 + (1 : Int))))))) else none) else (some (h0, ()))) := by kernel_rfl
theorem S_by (h_bx : C_bx p_bx g_bx) {pre : In_by -> Bool} {fn : In_by -> Out_by} (hev : ∀ x, pre x = true -> ∃ k, E_by g_bx p_bx k x = some (fn x)) : C_by pre fn := sound tysOk mixed (fn := Try.f133) rfl rfl rfl (.cons h_bx .nil) _ hev
end
/-! bz: iBatSigned -/
abbrev M_bz : List Vm.Mode := [.imm S_BatBatch, .imm I, .imm I]
abbrev R_bz : List (RK × Sh) := [(.imm, I)]
abbrev In_bz : Type := (insSh M_bz).den
abbrev Out_bz : Type := (outSh R_bz M_bz).den
abbrev C_bz (pre : In_bz -> Bool) (fn : In_bz -> Out_bz) : Prop := Sound Try.prog 134 ⟨M_bz, R_bz, pre, fn⟩
section
variable (g_by : In_by -> Out_by) (p_by : In_by -> Bool)
abbrev X_bz : Ctx := ctx tys 38 (conOf [(133, ⟨M_by, R_by, p_by, g_by⟩)]) (keepOf [(pt0, (⟨[(1, .asis), (2, .asis), (7, .asis), (13, .asis), (14, .asis), (15, .asis)], [], []⟩ : Keep))]) (fun _ => [])
noncomputable abbrev E_bz (k : Nat) (x : In_bz) : Option Out_bz := evFn (X_bz g_by p_by) Try.f134 R_bz M_bz k x
def h0_bz (x0 : Dm (.imm S_BatBatch)) (x1 : Dm (.imm I)) (x2 : Dm (.imm I)) (h0 : Dn I) (h1 : Dn I) (h2 : Dn I) : St := mkS [(1, (AV.val I x1)), (2, (AV.val I x2)), (7, (AV.val I h0)), (13, (AV.val L_BatSig x0.2.2.2.2.1)), (14, (AV.val I h1)), (15, (AV.val I h2))] []
noncomputable def r_bz (x : In_bz) (k : Nat) (p : List Bool) (s : St) : Option Out_bz := rounds (X_bz g_by p_by) Try.f134 R_bz M_bz x k p s
variable {g_by p_by}
theorem ev_bz (k : Nat) (x0 : Dm (.imm S_BatBatch)) (x1 : Dm (.imm I)) (x2 : Dm (.imm I)) : E_bz g_by p_by k (x0, x1, x2, ()) =
  (cl (p_by (x0, ())) (g_by (x0, ())) fun y0 => (r_bz g_by p_by (x0, x1, x2, ()) k pt0 (h0_bz x0 x1 x2 (y0.1) (List.length x0.2.2.2.2.1 : Int) (0 : Int)))) := by kernel_rfl
theorem rd0_bz (k : Nat) (x0 : Dm (.imm S_BatBatch)) (x1 : Dm (.imm I)) (x2 : Dm (.imm I)) (h0 : Dn I) (h1 : Dn I) (h2 : Dn I) : r_bz g_by p_by (x0, x1, x2, ()) (k + 1) pt0 (h0_bz x0 x1 x2 h0 h1 h2) =
  (bif (decide (h2 < h1)) then (bif (bif (decide ((0 : Int) <= h2)) then (decide (h2 < (List.length x0.2.2.2.2.1 : Int))) else false) then (bif (decide ((rdL (e := S_DayDay) x0.2.2.2.2.1 h2).2.1 = x1)) then (bif (decide ((rdL (e := S_DayDay) x0.2.2.2.2.1 h2).2.2 = h0)) then (bif (bif (decide ((rdL (e := S_DayDay) x0.2.2.2.2.1 h2).1 = x2)) then false else true) then (some ((rdL (e := S_DayDay) x0.2.2.2.2.1 h2).1, ())) else (r_bz g_by p_by (x0, x1, x2, ()) k pt0 (h0_bz x0 x1 x2 h0 h1 (w64 (h2 + (1 : Int)))))) else (r_bz g_by p_by (x0, x1, x2, ()) k pt0 (h0_bz x0 x1 x2 h0 h1 (w64 (h2 + (1 : Int)))))) else (r_bz g_by p_by (x0, x1, x2, ()) k pt0 (h0_bz x0 x1 x2 h0 h1 (w64 (h2 + (1 : Int)))))) else none) else (some ((0 : Int), ()))) := by kernel_rfl
theorem S_bz (h_by : C_by p_by g_by) {pre : In_bz -> Bool} {fn : In_bz -> Out_bz} (hev : ∀ x, pre x = true -> ∃ k, E_bz g_by p_by k x = some (fn x)) : C_bz pre fn := sound tysOk mixed (fn := Try.f134) rfl rfl rfl (.cons h_by .nil) _ hev
end
/-! c0: iBatBatch_gate_c2 -/
abbrev M_c0 : List Vm.Mode := [.imm S_DayDay, .pR I, .pR S_BatBatch]
abbrev R_c0 : List (RK × Sh) := [(.imm, .bool)]
abbrev In_c0 : Type := (insSh M_c0).den
abbrev Out_c0 : Type := (outSh R_c0 M_c0).den
abbrev C_c0 (pre : In_c0 -> Bool) (fn : In_c0 -> Out_c0) : Prop := Sound Try.prog 167 ⟨M_c0, R_c0, pre, fn⟩
section
variable (g_bz : In_bz -> Out_bz) (p_bz : In_bz -> Bool)
abbrev X_c0 : Ctx := ctx tys 21 (conOf [(134, ⟨M_bz, R_bz, p_bz, g_bz⟩)]) (keepOf []) (fun _ => [])
noncomputable abbrev E_c0 (k : Nat) (x : In_c0) : Option Out_c0 := evFn (X_c0 g_bz p_bz) Try.f167 R_c0 M_c0 k x
variable {g_bz p_bz}
theorem ev_c0 (k : Nat) (x0 : Dm (.imm S_DayDay)) (x1 : Dm (.pR I)) (x2 : Dm (.pR S_BatBatch)) : E_c0 g_bz p_bz k (x0, x1, x2, ()) =
  (bif (decide (x0.2.1 = (2 : Int))) then (bif (decide (x0.2.2 = x1)) then (cl (p_bz (x2, ((3 : Int), (x0.1, ())))) (g_bz (x2, ((3 : Int), (x0.1, ())))) fun y0 => (some ((decide ((0 : Int) < y0.1)), ()))) else (some (false, ()))) else (some (false, ()))) := by kernel_rfl
theorem S_c0 (h_bz : C_bz p_bz g_bz) {pre : In_c0 -> Bool} {fn : In_c0 -> Out_c0} (hev : ∀ x, pre x = true -> ∃ k, E_c0 g_bz p_bz k x = some (fn x)) : C_c0 pre fn := sound tysOk mixed (fn := Try.f167) rfl rfl rfl (.cons h_bz .nil) _ hev
end
/-! c1: gIndexFunc_BatSig__iBatBatch_gate_c2 -/
abbrev M_c1 : List Vm.Mode := [.imm L_BatSig, .clo 167 [I, S_BatBatch]]
abbrev R_c1 : List (RK × Sh) := [(.imm, I)]
abbrev In_c1 : Type := (insSh M_c1).den
abbrev Out_c1 : Type := (outSh R_c1 M_c1).den
abbrev C_c1 (pre : In_c1 -> Bool) (fn : In_c1 -> Out_c1) : Prop := Sound Try.prog 163 ⟨M_c1, R_c1, pre, fn⟩
section
variable (g_c0 : In_c0 -> Out_c0) (p_c0 : In_c0 -> Bool)
abbrev X_c1 : Ctx := ctx tys 19 (conOf [(167, ⟨M_c0, R_c0, p_c0, g_c0⟩)]) (keepOf [(pt1, (⟨[(0, .asis), (1, .asis), (7, .asis), (8, .asis)], [(1000005000, .asis), (1000005001, .asis)], []⟩ : Keep))]) (fun _ => [])
noncomputable abbrev E_c1 (k : Nat) (x : In_c1) : Option Out_c1 := evFn (X_c1 g_c0 p_c0) Try.f163 R_c1 M_c1 k x
def h0_c1 (x0 : Dm (.imm L_BatSig)) (x1 : Dm (.clo 167 [I, S_BatBatch])) (h0 : Dn I) (h1 : Dn I) : St := mkS [(0, (AV.val L_BatSig x0)), (1, (AV.fn 167 [1000005000, 1000005001])), (7, (AV.val I h0)), (8, (AV.val I h1))] [(1000005000, (Ob.cbox I x1.1)), (1000005001, (Ob.cbox S_BatBatch x1.2.1))]
noncomputable def r_c1 (x : In_c1) (k : Nat) (p : List Bool) (s : St) : Option Out_c1 := rounds (X_c1 g_c0 p_c0) Try.f163 R_c1 M_c1 x k p s
variable {g_c0 p_c0}
theorem ev_c1 (k : Nat) (x0 : Dm (.imm L_BatSig)) (x1 : Dm (.clo 167 [I, S_BatBatch])) : E_c1 g_c0 p_c0 k (x0, x1, ()) =
  (r_c1 g_c0 p_c0 (x0, x1, ()) k pt1 (h0_c1 x0 x1 (List.length x0 : Int) (0 : Int))) := by kernel_rfl
theorem rd0_c1 (k : Nat) (x0 : Dm (.imm L_BatSig)) (x1 : Dm (.clo 167 [I, S_BatBatch])) (h0 : Dn I) (h1 : Dn I) : r_c1 g_c0 p_c0 (x0, x1, ()) (k + 1) pt1 (h0_c1 x0 x1 h0 h1) =
  (bif (decide (h1 < h0)) then (bif (bif (decide ((0 : Int) <= h1)) then (decide (h1 < (List.length x0 : Int))) else false) then (cl (p_c0 ((rdL (e := S_DayDay) x0 h1), (x1.1, (x1.2.1, ())))) (g_c0 ((rdL (e := S_DayDay) x0 h1), (x1.1, (x1.2.1, ())))) fun y0 => (bif y0.1 then (some (h1, ())) else (r_c1 g_c0 p_c0 (x0, x1, ()) k pt1 (h0_c1 x0 x1 h0 (w64 (h1 + (1 : Int))))))) else none) else (some ((-1 : Int), ()))) := by kernel_rfl
theorem S_c1 (h_c0 : C_c0 p_c0 g_c0) {pre : In_c1 -> Bool} {fn : In_c1 -> Out_c1} (hev : ∀ x, pre x = true -> ∃ k, E_c1 g_c0 p_c0 k x = some (fn x)) : C_c1 pre fn := sound tysOk mixed (fn := Try.f163) rfl rfl rfl (.cons h_c0 .nil) _ hev
end
/-! c2: gContainsFunc_BatSig__iBatBatch_gate_c2 -/
abbrev M_c2 : List Vm.Mode := [.imm L_BatSig, .clo 167 [I, S_BatBatch]]
abbrev R_c2 : List (RK × Sh) := [(.imm, .bool)]
abbrev In_c2 : Type := (insSh M_c2).den
abbrev Out_c2 : Type := (outSh R_c2 M_c2).den
abbrev C_c2 (pre : In_c2 -> Bool) (fn : In_c2 -> Out_c2) : Prop := Sound Try.prog 113 ⟨M_c2, R_c2, pre, fn⟩
section
variable (g_c1 : In_c1 -> Out_c1) (p_c1 : In_c1 -> Bool)
abbrev X_c2 : Ctx := ctx tys 9 (conOf [(163, ⟨M_c1, R_c1, p_c1, g_c1⟩)]) (keepOf []) (fun _ => [])
noncomputable abbrev E_c2 (k : Nat) (x : In_c2) : Option Out_c2 := evFn (X_c2 g_c1 p_c1) Try.f113 R_c2 M_c2 k x
variable {g_c1 p_c1}
theorem ev_c2 (k : Nat) (x0 : Dm (.imm L_BatSig)) (x1 : Dm (.clo 167 [I, S_BatBatch])) : E_c2 g_c1 p_c1 k (x0, x1, ()) =
  (cl (p_c1 (x0, ((x1.1, (x1.2.1, ())), ()))) (g_c1 (x0, ((x1.1, (x1.2.1, ())), ()))) fun y0 => (some ((decide ((0 : Int) <= y0.1)), ()))) := by kernel_rfl
theorem S_c2 (h_c1 : C_c1 p_c1 g_c1) {pre : In_c2 -> Bool} {fn : In_c2 -> Out_c2} (hev : ∀ x, pre x = true -> ∃ k, E_c2 g_c1 p_c1 k x = some (fn x)) : C_c2 pre fn := sound tysOk mixed (fn := Try.f113) rfl rfl rfl (.cons h_c1 .nil) _ hev
end
/-! c3: iBatBatch_gate -/
abbrev M_c3 : List Vm.Mode := [.imm S_BatBatch]
abbrev R_c3 : List (RK × Sh) := [(.imm, .bool)]
abbrev In_c3 : Type := (insSh M_c3).den
abbrev Out_c3 : Type := (outSh R_c3 M_c3).den
abbrev C_c3 (pre : In_c3 -> Bool) (fn : In_c3 -> Out_c3) : Prop := Sound Try.prog 114 ⟨M_c3, R_c3, pre, fn⟩
section
variable (g_bu : In_bu -> Out_bu) (p_bu : In_bu -> Bool) (g_bw : In_bw -> Out_bw) (p_bw : In_bw -> Bool) (g_by : In_by -> Out_by) (p_by : In_by -> Bool) (g_c2 : In_c2 -> Out_c2) (p_c2 : In_c2 -> Bool)
abbrev X_c3 : Ctx := ctx tys 20 (conOf [(165, ⟨M_bu, R_bu, p_bu, g_bu⟩), (166, ⟨M_bw, R_bw, p_bw, g_bw⟩), (133, ⟨M_by, R_by, p_by, g_by⟩), (113, ⟨M_c2, R_c2, p_c2, g_c2⟩)]) (keepOf []) (fun _ => [])
noncomputable abbrev E_c3 (k : Nat) (x : In_c3) : Option Out_c3 := evFn (X_c3 g_bu p_bu g_bw p_bw g_by p_by g_c2 p_c2) Try.f114 R_c3 M_c3 k x
variable {g_bu p_bu g_bw p_bw g_by p_by g_c2 p_c2}
theorem ev_c3 (k : Nat) (x0 : Dm (.imm S_BatBatch)) : E_c3 g_bu p_bu g_bw p_bw g_by p_by g_c2 p_c2 k (x0, ()) =
  (cl (p_bu (x0.2.2.1, ((), ()))) (g_bu (x0.2.2.1, ((), ()))) fun y0 => (bif y0.1 then (some (false, ())) else (cl (p_bw (x0.2.2.2.2.2, (true, ()))) (g_bw (x0.2.2.2.2.2, (true, ()))) fun y1 => (bif y1.1 then (some (false, ())) else (cl (p_by (x0, ())) (g_by (x0, ())) fun y2 => (cl (p_c2 (x0.2.2.2.2.1, ((y2.1, (x0, ())), ()))) (g_c2 (x0.2.2.2.2.1, ((y2.1, (x0, ())), ()))) fun y3 => (some (y3.1, ())))))))) := by kernel_rfl
theorem S_c3 (h_bu : C_bu p_bu g_bu) (h_bw : C_bw p_bw g_bw) (h_by : C_by p_by g_by) (h_c2 : C_c2 p_c2 g_c2) {pre : In_c3 -> Bool} {fn : In_c3 -> Out_c3} (hev : ∀ x, pre x = true -> ∃ k, E_c3 g_bu p_bu g_bw p_bw g_by p_by g_c2 p_c2 k x = some (fn x)) : C_c3 pre fn := sound tysOk mixed (fn := Try.f114) rfl rfl rfl (.cons h_bu (.cons h_bw (.cons h_by (.cons h_c2 .nil)))) _ hev
end
/-! c4: iBatOk -/
abbrev M_c4 : List Vm.Mode := [.imm S_BatBatch]
abbrev R_c4 : List (RK × Sh) := [(.imm, .bool)]
abbrev In_c4 : Type := (insSh M_c4).den
abbrev Out_c4 : Type := (outSh R_c4 M_c4).den
abbrev C_c4 (pre : In_c4 -> Bool) (fn : In_c4 -> Out_c4) : Prop := Sound Try.prog 43 ⟨M_c4, R_c4, pre, fn⟩
section
variable (g_iin : In_iin -> Out_iin) (g_bl : In_bl -> Out_bl) (p_bl : In_bl -> Bool) (g_br : In_br -> Out_br) (p_br : In_br -> Bool) (g_c3 : In_c3 -> Out_c3) (p_c3 : In_c3 -> Bool)
abbrev X_c4 : Ctx := ctx tys 87 (conOf [(84, ⟨M_iin, R_iin, fun _ => true, g_iin⟩), (21, ⟨M_bl, R_bl, p_bl, g_bl⟩), (113, ⟨M_br, R_br, p_br, g_br⟩), (114, ⟨M_c3, R_c3, p_c3, g_c3⟩)]) (keepOf [(pt0, (⟨[(1, .asis), (30, .asis), (31, .asis), (32, .asis)], [(1, .asis)], []⟩ : Keep))]) (fun _ => [])
noncomputable abbrev E_c4 (k : Nat) (x : In_c4) : Option Out_c4 := evFn (X_c4 g_iin g_bl p_bl g_br p_br g_c3 p_c3) Try.f43 R_c4 M_c4 k x
def h0_c4 (x0 : Dm (.imm S_BatBatch)) (h0 : Dn I) (h1 : Dn I) : St := mkS [(1, (AV.ptr 1 none [])), (30, (AV.val L_TstTest x0.2.2.1)), (31, (AV.val I h0)), (32, (AV.val I h1))] [(1, (Ob.box S_BatBatch (AV.val S_BatBatch x0)))]
noncomputable def r_c4 (x : In_c4) (k : Nat) (p : List Bool) (s : St) : Option Out_c4 := rounds (X_c4 g_iin g_bl p_bl g_br p_br g_c3 p_c3) Try.f43 R_c4 M_c4 x k p s
variable {g_iin g_bl p_bl g_br p_br g_c3 p_c3}
theorem ev_c4 (k : Nat) (x0 : Dm (.imm S_BatBatch)) : E_c4 g_iin g_bl p_bl g_br p_br g_c3 p_c3 k (x0, ()) =
  (bif (bif (g_iin (x0.1, ((0 : Int), ((5 : Int), ())))).1 then false else true) then (some (false, ())) else (bif (bif (g_iin (x0.2.1, ((1 : Int), ((10000 : Int), ())))).1 then false else true) then (some (false, ())) else (bif (bif (g_iin ((List.length x0.2.2.1 : Int), ((1 : Int), ((4 : Int), ())))).1 then false else true) then (some (false, ())) else (bif (bif (g_iin (x0.2.2.2.1, ((1 : Int), ((4 : Int), ())))).1 then false else true) then (some (false, ())) else (r_c4 g_iin g_bl p_bl g_br p_br g_c3 p_c3 (x0, ()) k pt0 (h0_c4 x0 (List.length x0.2.2.1 : Int) (0 : Int))))))) := by kernel_rfl
theorem rd0_c4 (k : Nat) (x0 : Dm (.imm S_BatBatch)) (h0 : Dn I) (h1 : Dn I) : r_c4 g_iin g_bl p_bl g_br p_br g_c3 p_c3 (x0, ()) (k + 1) pt0 (h0_c4 x0 h0 h1) =
  (lt (rdL (e := S_TstTest) x0.2.2.1 h1) fun s1 => (lt (w64 (h1 - (1 : Int))) fun s0 => (bif (decide (h1 < h0)) then (bif (bif (decide ((0 : Int) <= h1)) then (decide (h1 < (List.length x0.2.2.1 : Int))) else false) then (cl (p_bl (s1, ())) (g_bl (s1, ())) fun y0 => (bif (bif y0.1 then false else true) then (some (false, ())) else (bif (decide ((0 : Int) < h1)) then (bif (bif (decide ((0 : Int) <= s0)) then (decide (s0 < (List.length x0.2.2.1 : Int))) else false) then (bif (decide (s1.1.1 <= (rdL (e := S_TstTest) x0.2.2.1 s0).1.1)) then (some (false, ())) else (r_c4 g_iin g_bl p_bl g_br p_br g_c3 p_c3 (x0, ()) k pt0 (h0_c4 x0 h0 (w64 (h1 + (1 : Int)))))) else none) else (r_c4 g_iin g_bl p_bl g_br p_br g_c3 p_c3 (x0, ()) k pt0 (h0_c4 x0 h0 (w64 (h1 + (1 : Int)))))))) else none) else (bif (decide ((6 : Int) < (List.length x0.2.2.2.2.1 : Int))) then (some (false, ())) else (cl (p_br (x0.2.2.2.2.1, ((), ()))) (g_br (x0.2.2.2.2.1, ((), ()))) fun y1 => (bif y1.1 then (some (false, ())) else (bif (decide ((3 : Int) < (List.length x0.2.2.2.2.2 : Int))) then (some (false, ())) else (bif (bif (decide (x0.2.2.2.1 = (2 : Int))) then false else true) then (bif (bif (decide (x0.2.2.2.1 = (4 : Int))) then false else true) then (some (true, ())) else (cl (p_c3 (x0, ())) (g_c3 (x0, ())) fun y2 => (some (y2.1, ())))) else (cl (p_c3 (x0, ())) (g_c3 (x0, ())) fun y3 => (some (y3.1, ()))))))))))) := by kernel_rfl
theorem S_c4 (h_iin : C_iin (fun _ => true) g_iin) (h_bl : C_bl p_bl g_bl) (h_br : C_br p_br g_br) (h_c3 : C_c3 p_c3 g_c3) {pre : In_c4 -> Bool} {fn : In_c4 -> Out_c4} (hev : ∀ x, pre x = true -> ∃ k, E_c4 g_iin g_bl p_bl g_br p_br g_c3 p_c3 k x = some (fn x)) : C_c4 pre fn := sound tysOk mixed (fn := Try.f43) rfl rfl rfl (.cons h_iin (.cons h_bl (.cons h_br (.cons h_c3 .nil)))) _ hev
end
/-! c5: iCerOf -/
abbrev M_c5 : List Vm.Mode := [.imm S_BatBatch]
abbrev R_c5 : List (RK × Sh) := [(.own, S_CerCer), (.imm, .bool)]
abbrev In_c5 : Type := (insSh M_c5).den
abbrev Out_c5 : Type := (outSh R_c5 M_c5).den
abbrev C_c5 (pre : In_c5 -> Bool) (fn : In_c5 -> Out_c5) : Prop := Sound Try.prog 58 ⟨M_c5, R_c5, pre, fn⟩
section
variable (g_c4 : In_c4 -> Out_c4) (p_c4 : In_c4 -> Bool) (g_bg : In_bg -> Out_bg) (p_bg : In_bg -> Bool) (g_by : In_by -> Out_by) (p_by : In_by -> Bool) (g_bz : In_bz -> Out_bz) (p_bz : In_bz -> Bool)
abbrev X_c5 : Ctx := ctx tys 96 (conOf [(43, ⟨M_c4, R_c4, p_c4, g_c4⟩), (89, ⟨M_bg, R_bg, p_bg, g_bg⟩), (133, ⟨M_by, R_by, p_by, g_by⟩), (134, ⟨M_bz, R_bz, p_bz, g_bz⟩)]) (keepOf [(pt3, (⟨[(1, .asis), (2, .asis), (4, .asis), (7, .asis), (52, .asis), (53, .asis), (54, .asis)], [(1, .asis), (2, (.pair .asis (.pair .own (.pair .own .asis)))), (4, (.pair .asis (.pair .own (.pair .own .asis))))], []⟩ : Keep)), (pt2, (⟨[(1, .asis), (2, .asis), (4, .asis), (28, .asis), (29, .asis), (30, .asis)], [(1, .asis), (2, (.pair .asis (.pair .own (.pair .own .asis)))), (4, (.pair .asis (.pair .own (.pair .own .asis))))], []⟩ : Keep))]) (fun _ => [])
noncomputable abbrev E_c5 (k : Nat) (x : In_c5) : Option Out_c5 := evFn (X_c5 g_c4 p_c4 g_bg p_bg g_by p_by g_bz p_bz) Try.f58 R_c5 M_c5 k x
def h0_c5 (x0 : Dm (.imm S_BatBatch)) (h0 : Dn I) (h1 : Dn I) (h2 : Dn I) (h3 : Dn S_DecDec) (h4 : (List (Dn S_SpcTest))) (h5 : (List (Dn S_DecDec))) (h6 : Dn S_DecDec) (h7 : (List (Dn S_SpcTest))) (h8 : (List (Dn S_DecDec))) : St := mkS [(1, (AV.ptr 1 none [])), (2, (AV.ptr 2 none [])), (4, (AV.ptr 4 none [])), (28, (AV.val L_TstTest x0.2.2.1)), (29, (AV.val I h0)), (30, (AV.val I h1))] [(1, (Ob.box S_BatBatch (AV.val S_BatBatch x0))), (2, (Ob.box S_CerCer (AV.pair (AV.val I h2) (AV.pair (AV.sref 2502 none []) (AV.pair (AV.sref 12502 none []) (AV.val S_DecDec h3)))))), (2502, (Ob.arr 26 S_SpcTest h4)), (12502, (Ob.arr 24 S_DecDec h5)), (4, (Ob.box S_CerCer (AV.pair (AV.val I x0.1) (AV.pair (AV.sref 2504 none []) (AV.pair (AV.sref 12504 none []) (AV.val S_DecDec h6)))))), (2504, (Ob.arr 26 S_SpcTest h7)), (12504, (Ob.arr 24 S_DecDec h8))]
def h1_c5 (x0 : Dm (.imm S_BatBatch)) (h0 : Dn I) (h1 : Dn I) (h2 : Dn I) (h3 : Dn I) (h4 : Dn S_DecDec) (h5 : (List (Dn S_SpcTest))) (h6 : (List (Dn S_DecDec))) (h7 : Dn S_DecDec) (h8 : (List (Dn S_SpcTest))) (h9 : (List (Dn S_DecDec))) : St := mkS [(1, (AV.ptr 1 none [])), (2, (AV.ptr 2 none [])), (4, (AV.ptr 4 none [])), (7, (AV.val I h0)), (52, (AV.val L_BatSig x0.2.2.2.2.1)), (53, (AV.val I h1)), (54, (AV.val I h2))] [(1, (Ob.box S_BatBatch (AV.val S_BatBatch x0))), (2, (Ob.box S_CerCer (AV.pair (AV.val I h3) (AV.pair (AV.sref 2502 none []) (AV.pair (AV.sref 12502 none []) (AV.val S_DecDec h4)))))), (2502, (Ob.arr 26 S_SpcTest h5)), (12502, (Ob.arr 24 S_DecDec h6)), (4, (Ob.box S_CerCer (AV.pair (AV.val I x0.1) (AV.pair (AV.sref 2504 none []) (AV.pair (AV.sref 12504 none []) (AV.val S_DecDec h7)))))), (2504, (Ob.arr 26 S_SpcTest h8)), (12504, (Ob.arr 24 S_DecDec h9))]
noncomputable def r_c5 (x : In_c5) (k : Nat) (p : List Bool) (s : St) : Option Out_c5 := rounds (X_c5 g_c4 p_c4 g_bg p_bg g_by p_by g_bz p_bz) Try.f58 R_c5 M_c5 x k p s
variable {g_c4 p_c4 g_bg p_bg g_by p_by g_bz p_bz}
theorem ev_c5 (k : Nat) (x0 : Dm (.imm S_BatBatch)) : E_c5 g_c4 p_c4 g_bg p_bg g_by p_by g_bz p_bz k (x0, ()) =
  (cl (p_c4 (x0, ())) (g_c4 (x0, ())) fun y0 => (bif (bif y0.1 then false else true) then (some (((0 : Int), ([], ([], ((0 : Int), (0 : Int))))), (false, ()))) else (bif (bif (decide (x0.2.2.2.1 = (2 : Int))) then false else true) then (bif (bif (decide (x0.2.2.2.1 = (4 : Int))) then false else true) then (some (((0 : Int), ([], ([], ((0 : Int), (0 : Int))))), (false, ()))) else (r_c5 g_c4 p_c4 g_bg p_bg g_by p_by g_bz p_bz (x0, ()) k pt2 (h0_c5 x0 (List.length x0.2.2.1 : Int) (0 : Int) (0 : Int) ((0 : Int), (0 : Int)) [] [] ((0 : Int), (0 : Int)) [] []))) else (r_c5 g_c4 p_c4 g_bg p_bg g_by p_by g_bz p_bz (x0, ()) k pt2 (h0_c5 x0 (List.length x0.2.2.1 : Int) (0 : Int) (0 : Int) ((0 : Int), (0 : Int)) [] [] ((0 : Int), (0 : Int)) [] []))))) := by kernel_rfl
theorem rd0_c5 (k : Nat) (x0 : Dm (.imm S_BatBatch)) (h0 : Dn I) (h1 : Dn I) (h2 : Dn I) (h3 : Dn S_DecDec) (h4 : (List (Dn S_SpcTest))) (h5 : (List (Dn S_DecDec))) (h6 : Dn S_DecDec) (h7 : (List (Dn S_SpcTest))) (h8 : (List (Dn S_DecDec))) : r_c5 g_c4 p_c4 g_bg p_bg g_by p_by g_bz p_bz (x0, ()) (k + 1) pt2 (h0_c5 x0 h0 h1 h2 h3 h4 h5 h6 h7 h8) =
  (bif (decide (h1 < h0)) then (bif (bif (decide ((0 : Int) <= h1)) then (decide (h1 < (List.length x0.2.2.1 : Int))) else false) then (bif (fitL h7 [((rdL (e := S_TstTest) x0.2.2.1 h1).1)]) then (cl (p_bg ((rdL (e := S_TstTest) x0.2.2.1 h1), ())) (g_bg ((rdL (e := S_TstTest) x0.2.2.1 h1), ())) fun y0 => (bif (fitL h8 [(y0.1)]) then (r_c5 g_c4 p_c4 g_bg p_bg g_by p_by g_bz p_bz (x0, ()) k pt2 (h0_c5 x0 h0 (w64 (h1 + (1 : Int))) h2 h3 h4 h5 h6 (List.append h7 [((rdL (e := S_TstTest) x0.2.2.1 h1).1)]) (List.append h8 [(y0.1)]))) else none)) else none) else none) else (cl (p_by (x0, ())) (g_by (x0, ())) fun y1 => (r_c5 g_c4 p_c4 g_bg p_bg g_by p_by g_bz p_bz (x0, ()) k pt3 (h1_c5 x0 (y1.1) (List.length x0.2.2.2.2.1 : Int) (0 : Int) h2 h3 h4 h5 h6 h7 h8)))) := by kernel_rfl
theorem rd1_c5 (k : Nat) (x0 : Dm (.imm S_BatBatch)) (h0 : Dn I) (h1 : Dn I) (h2 : Dn I) (h3 : Dn I) (h4 : Dn S_DecDec) (h5 : (List (Dn S_SpcTest))) (h6 : (List (Dn S_DecDec))) (h7 : Dn S_DecDec) (h8 : (List (Dn S_SpcTest))) (h9 : (List (Dn S_DecDec))) : r_c5 g_c4 p_c4 g_bg p_bg g_by p_by g_bz p_bz (x0, ()) (k + 1) pt3 (h1_c5 x0 h0 h1 h2 h3 h4 h5 h6 h7 h8 h9) =
  (bif (decide (h2 < h1)) then (bif (bif (decide ((0 : Int) <= h2)) then (decide (h2 < (List.length x0.2.2.2.2.1 : Int))) else false) then (bif (decide ((rdL (e := S_DayDay) x0.2.2.2.2.1 h2).2.1 = (2 : Int))) then (bif (decide ((rdL (e := S_DayDay) x0.2.2.2.2.1 h2).2.2 = h0)) then (cl (p_bz (x0, ((3 : Int), ((rdL (e := S_DayDay) x0.2.2.2.2.1 h2).1, ())))) (g_bz (x0, ((3 : Int), ((rdL (e := S_DayDay) x0.2.2.2.2.1 h2).1, ())))) fun y0 => (bif (decide ((0 : Int) < y0.1)) then (bif (decide (h7.1 = (0 : Int))) then (r_c5 g_c4 p_c4 g_bg p_bg g_by p_by g_bz p_bz (x0, ()) k pt3 (h1_c5 x0 h0 h1 (w64 (h2 + (1 : Int))) h3 h4 h5 h6 ((rdL (e := S_DayDay) x0.2.2.2.2.1 h2).1, h7.2) h8 h9)) else (bif (decide ((rdL (e := S_DayDay) x0.2.2.2.2.1 h2).1 < h7.1)) then (r_c5 g_c4 p_c4 g_bg p_bg g_by p_by g_bz p_bz (x0, ()) k pt3 (h1_c5 x0 h0 h1 (w64 (h2 + (1 : Int))) h3 h4 h5 h6 ((rdL (e := S_DayDay) x0.2.2.2.2.1 h2).1, h7.2) h8 h9)) else (r_c5 g_c4 p_c4 g_bg p_bg g_by p_by g_bz p_bz (x0, ()) k pt3 (h1_c5 x0 h0 h1 (w64 (h2 + (1 : Int))) h3 h4 h5 h6 h7 h8 h9)))) else (r_c5 g_c4 p_c4 g_bg p_bg g_by p_by g_bz p_bz (x0, ()) k pt3 (h1_c5 x0 h0 h1 (w64 (h2 + (1 : Int))) h3 h4 h5 h6 h7 h8 h9)))) else (r_c5 g_c4 p_c4 g_bg p_bg g_by p_by g_bz p_bz (x0, ()) k pt3 (h1_c5 x0 h0 h1 (w64 (h2 + (1 : Int))) h3 h4 h5 h6 h7 h8 h9))) else (r_c5 g_c4 p_c4 g_bg p_bg g_by p_by g_bz p_bz (x0, ()) k pt3 (h1_c5 x0 h0 h1 (w64 (h2 + (1 : Int))) h3 h4 h5 h6 h7 h8 h9))) else none) else (cl (p_bz (x0, ((3 : Int), (h7.1, ())))) (g_bz (x0, ((3 : Int), (h7.1, ())))) fun y1 => (some ((x0.1, (h8, (h9, (h7.1, y1.1)))), (true, ()))))) := by kernel_rfl
theorem S_c5 (h_c4 : C_c4 p_c4 g_c4) (h_bg : C_bg p_bg g_bg) (h_by : C_by p_by g_by) (h_bz : C_bz p_bz g_bz) {pre : In_c5 -> Bool} {fn : In_c5 -> Out_c5} (hev : ∀ x, pre x = true -> ∃ k, E_c5 g_c4 p_c4 g_bg p_bg g_by p_by g_bz p_bz k x = some (fn x)) : C_c5 pre fn := sound tysOk mixed (fn := Try.f58) rfl rfl rfl (.cons h_c4 (.cons h_bg (.cons h_by (.cons h_bz .nil)))) _ hev
end
/-! c6: leqDecDec -/
abbrev M_c6 : List Vm.Mode := [.imm S_DecDec, .imm S_DecDec]
abbrev R_c6 : List (RK × Sh) := [(.imm, .bool)]
abbrev In_c6 : Type := (insSh M_c6).den
abbrev Out_c6 : Type := (outSh R_c6 M_c6).den
abbrev C_c6 (pre : In_c6 -> Bool) (fn : In_c6 -> Out_c6) : Prop := Sound Try.prog 156 ⟨M_c6, R_c6, pre, fn⟩
abbrev X_c6 : Ctx := ctx tys 15 (conOf []) (keepOf []) (fun _ => [])
noncomputable abbrev E_c6 (k : Nat) (x : In_c6) : Option Out_c6 := evFn X_c6 Try.f156 R_c6 M_c6 k x
theorem ev_c6 (k : Nat) (x0 : Dm (.imm S_DecDec)) (x1 : Dm (.imm S_DecDec)) : E_c6 k (x0, x1, ()) =
  (bif (bif (decide (x0.1 = x1.1)) then false else true) then (some (false, ())) else (bif (bif (decide (x0.2 = x1.2)) then false else true) then (some (false, ())) else (some (true, ())))) := by kernel_rfl
theorem S_c6  {pre : In_c6 -> Bool} {fn : In_c6 -> Out_c6} (hev : ∀ x, pre x = true -> ∃ k, E_c6 k x = some (fn x)) : C_c6 pre fn := sound tysOk mixed (fn := Try.f156) rfl rfl rfl ConsOk.nil _ hev
/-! c7: leqSpcTest -/
abbrev M_c7 : List Vm.Mode := [.imm S_SpcTest, .imm S_SpcTest]
abbrev R_c7 : List (RK × Sh) := [(.imm, .bool)]
abbrev In_c7 : Type := (insSh M_c7).den
abbrev Out_c7 : Type := (outSh R_c7 M_c7).den
abbrev C_c7 (pre : In_c7 -> Bool) (fn : In_c7 -> Out_c7) : Prop := Sound Try.prog 97 ⟨M_c7, R_c7, pre, fn⟩
section
variable (g_c6 : In_c6 -> Out_c6)
abbrev X_c7 : Ctx := ctx tys 27 (conOf [(156, ⟨M_c6, R_c6, fun _ => true, g_c6⟩)]) (keepOf []) (fun _ => [])
noncomputable abbrev E_c7 (k : Nat) (x : In_c7) : Option Out_c7 := evFn (X_c7 g_c6) Try.f97 R_c7 M_c7 k x
variable {g_c6}
theorem ev_c7 (k : Nat) (x0 : Dm (.imm S_SpcTest)) (x1 : Dm (.imm S_SpcTest)) : E_c7 g_c6 k (x0, x1, ()) =
  (bif (bif (decide (x0.1 = x1.1)) then false else true) then (some (false, ())) else (bif (bif (g_c6 (x0.2.1, (x1.2.1, ()))).1 then false else true) then (some (false, ())) else (bif (bif (g_c6 (x0.2.2.1, (x1.2.2.1, ()))).1 then false else true) then (some (false, ())) else (bif (bif (decide (x0.2.2.2 = x1.2.2.2)) then false else true) then (some (false, ())) else (some (true, ())))))) := by kernel_rfl
theorem S_c7 (h_c6 : C_c6 (fun _ => true) g_c6) {pre : In_c7 -> Bool} {fn : In_c7 -> Out_c7} (hev : ∀ x, pre x = true -> ∃ k, E_c7 g_c6 k x = some (fn x)) : C_c7 pre fn := sound tysOk mixed (fn := Try.f97) rfl rfl rfl (.cons h_c6 .nil) _ hev
end
/-! c8: leqSpcTestS -/
abbrev M_c8 : List Vm.Mode := [.imm L_SpcTest, .imm L_SpcTest]
abbrev R_c8 : List (RK × Sh) := [(.imm, .bool)]
abbrev In_c8 : Type := (insSh M_c8).den
abbrev Out_c8 : Type := (outSh R_c8 M_c8).den
abbrev C_c8 (pre : In_c8 -> Bool) (fn : In_c8 -> Out_c8) : Prop := Sound Try.prog 36 ⟨M_c8, R_c8, pre, fn⟩
section
variable (g_c7 : In_c7 -> Out_c7)
abbrev X_c8 : Ctx := ctx tys 27 (conOf [(97, ⟨M_c7, R_c7, fun _ => true, g_c7⟩)]) (keepOf [(pt0, (⟨[(0, .asis), (1, .asis), (5, .asis)], [], []⟩ : Keep))]) (fun _ => [])
noncomputable abbrev E_c8 (k : Nat) (x : In_c8) : Option Out_c8 := evFn (X_c8 g_c7) Try.f36 R_c8 M_c8 k x
def h0_c8 (x0 : Dm (.imm L_SpcTest)) (x1 : Dm (.imm L_SpcTest)) (h0 : Dn I) : St := mkS [(0, (AV.val L_SpcTest x0)), (1, (AV.val L_SpcTest x1)), (5, (AV.val I h0))] []
noncomputable def r_c8 (x : In_c8) (k : Nat) (p : List Bool) (s : St) : Option Out_c8 := rounds (X_c8 g_c7) Try.f36 R_c8 M_c8 x k p s
variable {g_c7}
theorem ev_c8 (k : Nat) (x0 : Dm (.imm L_SpcTest)) (x1 : Dm (.imm L_SpcTest)) : E_c8 g_c7 k (x0, x1, ()) =
  (bif (bif (decide ((List.length x0 : Int) = (List.length x1 : Int))) then false else true) then (some (false, ())) else (r_c8 g_c7 (x0, x1, ()) k pt0 (h0_c8 x0 x1 (0 : Int)))) := by kernel_rfl
theorem rd0_c8 (k : Nat) (x0 : Dm (.imm L_SpcTest)) (x1 : Dm (.imm L_SpcTest)) (h0 : Dn I) : r_c8 g_c7 (x0, x1, ()) (k + 1) pt0 (h0_c8 x0 x1 h0) =
  (bif (decide (h0 < (List.length x0 : Int))) then (bif (bif (decide ((0 : Int) <= h0)) then (decide (h0 < (List.length x0 : Int))) else false) then (bif (bif (decide ((0 : Int) <= h0)) then (decide (h0 < (List.length x1 : Int))) else false) then (bif (bif (g_c7 ((rdL (e := S_SpcTest) x0 h0), ((rdL (e := S_SpcTest) x1 h0), ()))).1 then false else true) then (some (false, ())) else (r_c8 g_c7 (x0, x1, ()) k pt0 (h0_c8 x0 x1 (w64 (h0 + (1 : Int)))))) else none) else none) else (some (true, ()))) := by kernel_rfl
theorem S_c8 (h_c7 : C_c7 (fun _ => true) g_c7) {pre : In_c8 -> Bool} {fn : In_c8 -> Out_c8} (hev : ∀ x, pre x = true -> ∃ k, E_c8 g_c7 k x = some (fn x)) : C_c8 pre fn := sound tysOk mixed (fn := Try.f36) rfl rfl rfl (.cons h_c7 .nil) _ hev
end
/-! c9: leqDecDecS -/
abbrev M_c9 : List Vm.Mode := [.imm L_DecDec, .imm L_DecDec]
abbrev R_c9 : List (RK × Sh) := [(.imm, .bool)]
abbrev In_c9 : Type := (insSh M_c9).den
abbrev Out_c9 : Type := (outSh R_c9 M_c9).den
abbrev C_c9 (pre : In_c9 -> Bool) (fn : In_c9 -> Out_c9) : Prop := Sound Try.prog 135 ⟨M_c9, R_c9, pre, fn⟩
section
variable (g_c6 : In_c6 -> Out_c6)
abbrev X_c9 : Ctx := ctx tys 27 (conOf [(156, ⟨M_c6, R_c6, fun _ => true, g_c6⟩)]) (keepOf [(pt0, (⟨[(0, .asis), (1, .asis), (5, .asis)], [], []⟩ : Keep))]) (fun _ => [])
noncomputable abbrev E_c9 (k : Nat) (x : In_c9) : Option Out_c9 := evFn (X_c9 g_c6) Try.f135 R_c9 M_c9 k x
def h0_c9 (x0 : Dm (.imm L_DecDec)) (x1 : Dm (.imm L_DecDec)) (h0 : Dn I) : St := mkS [(0, (AV.val L_DecDec x0)), (1, (AV.val L_DecDec x1)), (5, (AV.val I h0))] []
noncomputable def r_c9 (x : In_c9) (k : Nat) (p : List Bool) (s : St) : Option Out_c9 := rounds (X_c9 g_c6) Try.f135 R_c9 M_c9 x k p s
variable {g_c6}
theorem ev_c9 (k : Nat) (x0 : Dm (.imm L_DecDec)) (x1 : Dm (.imm L_DecDec)) : E_c9 g_c6 k (x0, x1, ()) =
  (bif (bif (decide ((List.length x0 : Int) = (List.length x1 : Int))) then false else true) then (some (false, ())) else (r_c9 g_c6 (x0, x1, ()) k pt0 (h0_c9 x0 x1 (0 : Int)))) := by kernel_rfl
theorem rd0_c9 (k : Nat) (x0 : Dm (.imm L_DecDec)) (x1 : Dm (.imm L_DecDec)) (h0 : Dn I) : r_c9 g_c6 (x0, x1, ()) (k + 1) pt0 (h0_c9 x0 x1 h0) =
  (bif (decide (h0 < (List.length x0 : Int))) then (bif (bif (decide ((0 : Int) <= h0)) then (decide (h0 < (List.length x0 : Int))) else false) then (bif (bif (decide ((0 : Int) <= h0)) then (decide (h0 < (List.length x1 : Int))) else false) then (bif (bif (g_c6 ((rdL (e := S_DecDec) x0 h0), ((rdL (e := S_DecDec) x1 h0), ()))).1 then false else true) then (some (false, ())) else (r_c9 g_c6 (x0, x1, ()) k pt0 (h0_c9 x0 x1 (w64 (h0 + (1 : Int)))))) else none) else none) else (some (true, ()))) := by kernel_rfl
theorem S_c9 (h_c6 : C_c6 (fun _ => true) g_c6) {pre : In_c9 -> Bool} {fn : In_c9 -> Out_c9} (hev : ∀ x, pre x = true -> ∃ k, E_c9 g_c6 k x = some (fn x)) : C_c9 pre fn := sound tysOk mixed (fn := Try.f135) rfl rfl rfl (.cons h_c6 .nil) _ hev
end
/-! ca: leqCerCer -/
abbrev M_ca : List Vm.Mode := [.imm S_CerCer, .imm S_CerCer]
abbrev R_ca : List (RK × Sh) := [(.imm, .bool)]
abbrev In_ca : Type := (insSh M_ca).den
abbrev Out_ca : Type := (outSh R_ca M_ca).den
abbrev C_ca (pre : In_ca -> Bool) (fn : In_ca -> Out_ca) : Prop := Sound Try.prog 59 ⟨M_ca, R_ca, pre, fn⟩
section
variable (g_c8 : In_c8 -> Out_c8) (p_c8 : In_c8 -> Bool) (g_c9 : In_c9 -> Out_c9) (p_c9 : In_c9 -> Bool)
abbrev X_ca : Ctx := ctx tys 32 (conOf [(36, ⟨M_c8, R_c8, p_c8, g_c8⟩), (135, ⟨M_c9, R_c9, p_c9, g_c9⟩)]) (keepOf []) (fun _ => [])
noncomputable abbrev E_ca (k : Nat) (x : In_ca) : Option Out_ca := evFn (X_ca g_c8 p_c8 g_c9 p_c9) Try.f59 R_ca M_ca k x
variable {g_c8 p_c8 g_c9 p_c9}
theorem ev_ca (k : Nat) (x0 : Dm (.imm S_CerCer)) (x1 : Dm (.imm S_CerCer)) : E_ca g_c8 p_c8 g_c9 p_c9 k (x0, x1, ()) =
  (bif (bif (decide (x0.1 = x1.1)) then false else true) then (some (false, ())) else (bif (p_c8 (x0.2.1, (x1.2.1, ()))) then (bif (bif (g_c8 (x0.2.1, (x1.2.1, ()))).1 then false else true) then (some (false, ())) else (bif (p_c9 (x0.2.2.1, (x1.2.2.1, ()))) then (bif (bif (g_c9 (x0.2.2.1, (x1.2.2.1, ()))).1 then false else true) then (some (false, ())) else (bif (bif (decide (x0.2.2.2.1 = x1.2.2.2.1)) then false else true) then (some (false, ())) else (bif (bif (decide (x0.2.2.2.2 = x1.2.2.2.2)) then false else true) then (some (false, ())) else (some (true, ()))))) else none)) else none)) := by kernel_rfl
theorem S_ca (h_c8 : C_c8 p_c8 g_c8) (h_c9 : C_c9 p_c9 g_c9) {pre : In_ca -> Bool} {fn : In_ca -> Out_ca} (hev : ∀ x, pre x = true -> ∃ k, E_ca g_c8 p_c8 g_c9 p_c9 k x = some (fn x)) : C_ca pre fn := sound tysOk mixed (fn := Try.f59) rfl rfl rfl (.cons h_c8 (.cons h_c9 .nil)) _ hev
end
/-! cb: leqTstTest -/
abbrev M_cb : List Vm.Mode := [.imm S_TstTest, .imm S_TstTest]
abbrev R_cb : List (RK × Sh) := [(.imm, .bool)]
abbrev In_cb : Type := (insSh M_cb).den
abbrev Out_cb : Type := (outSh R_cb M_cb).den
abbrev C_cb (pre : In_cb -> Bool) (fn : In_cb -> Out_cb) : Prop := Sound Try.prog 154 ⟨M_cb, R_cb, pre, fn⟩
section
variable (g_c7 : In_c7 -> Out_c7) (g_c6 : In_c6 -> Out_c6) (g_c9 : In_c9 -> Out_c9) (p_c9 : In_c9 -> Bool)
abbrev X_cb : Ctx := ctx tys 33 (conOf [(97, ⟨M_c7, R_c7, fun _ => true, g_c7⟩), (156, ⟨M_c6, R_c6, fun _ => true, g_c6⟩), (135, ⟨M_c9, R_c9, p_c9, g_c9⟩)]) (keepOf []) (fun _ => [])
noncomputable abbrev E_cb (k : Nat) (x : In_cb) : Option Out_cb := evFn (X_cb g_c7 g_c6 g_c9 p_c9) Try.f154 R_cb M_cb k x
variable {g_c7 g_c6 g_c9 p_c9}
theorem ev_cb (k : Nat) (x0 : Dm (.imm S_TstTest)) (x1 : Dm (.imm S_TstTest)) : E_cb g_c7 g_c6 g_c9 p_c9 k (x0, x1, ()) =
  (bif (bif (g_c7 (x0.1, (x1.1, ()))).1 then false else true) then (some (false, ())) else (bif (bif (decide (x0.2.1 = x1.2.1)) then false else true) then (some (false, ())) else (bif (bif (g_c6 (x0.2.2.1, (x1.2.2.1, ()))).1 then false else true) then (some (false, ())) else (bif (bif (decide (x0.2.2.2.1 = x1.2.2.2.1)) then false else true) then (some (false, ())) else (bif (p_c9 (x0.2.2.2.2, (x1.2.2.2.2, ()))) then (bif (bif (g_c9 (x0.2.2.2.2, (x1.2.2.2.2, ()))).1 then false else true) then (some (false, ())) else (some (true, ()))) else none))))) := by kernel_rfl
theorem S_cb (h_c7 : C_c7 (fun _ => true) g_c7) (h_c6 : C_c6 (fun _ => true) g_c6) (h_c9 : C_c9 p_c9 g_c9) {pre : In_cb -> Bool} {fn : In_cb -> Out_cb} (hev : ∀ x, pre x = true -> ∃ k, E_cb g_c7 g_c6 g_c9 p_c9 k x = some (fn x)) : C_cb pre fn := sound tysOk mixed (fn := Try.f154) rfl rfl rfl (.cons h_c7 (.cons h_c6 (.cons h_c9 .nil))) _ hev
end
/-! cc: leqTstTestS -/
abbrev M_cc : List Vm.Mode := [.imm L_TstTest, .imm L_TstTest]
abbrev R_cc : List (RK × Sh) := [(.imm, .bool)]
abbrev In_cc : Type := (insSh M_cc).den
abbrev Out_cc : Type := (outSh R_cc M_cc).den
abbrev C_cc (pre : In_cc -> Bool) (fn : In_cc -> Out_cc) : Prop := Sound Try.prog 94 ⟨M_cc, R_cc, pre, fn⟩
section
variable (g_cb : In_cb -> Out_cb) (p_cb : In_cb -> Bool)
abbrev X_cc : Ctx := ctx tys 27 (conOf [(154, ⟨M_cb, R_cb, p_cb, g_cb⟩)]) (keepOf [(pt0, (⟨[(0, .asis), (1, .asis), (5, .asis)], [], []⟩ : Keep))]) (fun _ => [])
noncomputable abbrev E_cc (k : Nat) (x : In_cc) : Option Out_cc := evFn (X_cc g_cb p_cb) Try.f94 R_cc M_cc k x
def h0_cc (x0 : Dm (.imm L_TstTest)) (x1 : Dm (.imm L_TstTest)) (h0 : Dn I) : St := mkS [(0, (AV.val L_TstTest x0)), (1, (AV.val L_TstTest x1)), (5, (AV.val I h0))] []
noncomputable def r_cc (x : In_cc) (k : Nat) (p : List Bool) (s : St) : Option Out_cc := rounds (X_cc g_cb p_cb) Try.f94 R_cc M_cc x k p s
variable {g_cb p_cb}
theorem ev_cc (k : Nat) (x0 : Dm (.imm L_TstTest)) (x1 : Dm (.imm L_TstTest)) : E_cc g_cb p_cb k (x0, x1, ()) =
  (bif (bif (decide ((List.length x0 : Int) = (List.length x1 : Int))) then false else true) then (some (false, ())) else (r_cc g_cb p_cb (x0, x1, ()) k pt0 (h0_cc x0 x1 (0 : Int)))) := by kernel_rfl
theorem rd0_cc (k : Nat) (x0 : Dm (.imm L_TstTest)) (x1 : Dm (.imm L_TstTest)) (h0 : Dn I) : r_cc g_cb p_cb (x0, x1, ()) (k + 1) pt0 (h0_cc x0 x1 h0) =
  (bif (decide (h0 < (List.length x0 : Int))) then (bif (bif (decide ((0 : Int) <= h0)) then (decide (h0 < (List.length x0 : Int))) else false) then (bif (bif (decide ((0 : Int) <= h0)) then (decide (h0 < (List.length x1 : Int))) else false) then (cl (p_cb ((rdL (e := S_TstTest) x0 h0), ((rdL (e := S_TstTest) x1 h0), ()))) (g_cb ((rdL (e := S_TstTest) x0 h0), ((rdL (e := S_TstTest) x1 h0), ()))) fun y0 => (bif (bif y0.1 then false else true) then (some (false, ())) else (r_cc g_cb p_cb (x0, x1, ()) k pt0 (h0_cc x0 x1 (w64 (h0 + (1 : Int))))))) else none) else none) else (some (true, ()))) := by kernel_rfl
theorem S_cc (h_cb : C_cb p_cb g_cb) {pre : In_cc -> Bool} {fn : In_cc -> Out_cc} (hev : ∀ x, pre x = true -> ∃ k, E_cc g_cb p_cb k x = some (fn x)) : C_cc pre fn := sound tysOk mixed (fn := Try.f94) rfl rfl rfl (.cons h_cb .nil) _ hev
end
/-! cd: leqBatSig -/
abbrev M_cd : List Vm.Mode := [.imm S_DayDay, .imm S_DayDay]
abbrev R_cd : List (RK × Sh) := [(.imm, .bool)]
abbrev In_cd : Type := (insSh M_cd).den
abbrev Out_cd : Type := (outSh R_cd M_cd).den
abbrev C_cd (pre : In_cd -> Bool) (fn : In_cd -> Out_cd) : Prop := Sound Try.prog 155 ⟨M_cd, R_cd, pre, fn⟩
abbrev X_cd : Ctx := ctx tys 20 (conOf []) (keepOf []) (fun _ => [])
noncomputable abbrev E_cd (k : Nat) (x : In_cd) : Option Out_cd := evFn X_cd Try.f155 R_cd M_cd k x
theorem ev_cd (k : Nat) (x0 : Dm (.imm S_DayDay)) (x1 : Dm (.imm S_DayDay)) : E_cd k (x0, x1, ()) =
  (bif (bif (decide (x0.1 = x1.1)) then false else true) then (some (false, ())) else (bif (bif (decide (x0.2.1 = x1.2.1)) then false else true) then (some (false, ())) else (bif (bif (decide (x0.2.2 = x1.2.2)) then false else true) then (some (false, ())) else (some (true, ()))))) := by kernel_rfl
theorem S_cd  {pre : In_cd -> Bool} {fn : In_cd -> Out_cd} (hev : ∀ x, pre x = true -> ∃ k, E_cd k x = some (fn x)) : C_cd pre fn := sound tysOk mixed (fn := Try.f155) rfl rfl rfl ConsOk.nil _ hev
/-! ce: leqBatSigS -/
abbrev M_ce : List Vm.Mode := [.imm L_BatSig, .imm L_BatSig]
abbrev R_ce : List (RK × Sh) := [(.imm, .bool)]
abbrev In_ce : Type := (insSh M_ce).den
abbrev Out_ce : Type := (outSh R_ce M_ce).den
abbrev C_ce (pre : In_ce -> Bool) (fn : In_ce -> Out_ce) : Prop := Sound Try.prog 95 ⟨M_ce, R_ce, pre, fn⟩
section
variable (g_cd : In_cd -> Out_cd)
abbrev X_ce : Ctx := ctx tys 27 (conOf [(155, ⟨M_cd, R_cd, fun _ => true, g_cd⟩)]) (keepOf [(pt0, (⟨[(0, .asis), (1, .asis), (5, .asis)], [], []⟩ : Keep))]) (fun _ => [])
noncomputable abbrev E_ce (k : Nat) (x : In_ce) : Option Out_ce := evFn (X_ce g_cd) Try.f95 R_ce M_ce k x
def h0_ce (x0 : Dm (.imm L_BatSig)) (x1 : Dm (.imm L_BatSig)) (h0 : Dn I) : St := mkS [(0, (AV.val L_BatSig x0)), (1, (AV.val L_BatSig x1)), (5, (AV.val I h0))] []
noncomputable def r_ce (x : In_ce) (k : Nat) (p : List Bool) (s : St) : Option Out_ce := rounds (X_ce g_cd) Try.f95 R_ce M_ce x k p s
variable {g_cd}
theorem ev_ce (k : Nat) (x0 : Dm (.imm L_BatSig)) (x1 : Dm (.imm L_BatSig)) : E_ce g_cd k (x0, x1, ()) =
  (bif (bif (decide ((List.length x0 : Int) = (List.length x1 : Int))) then false else true) then (some (false, ())) else (r_ce g_cd (x0, x1, ()) k pt0 (h0_ce x0 x1 (0 : Int)))) := by kernel_rfl
theorem rd0_ce (k : Nat) (x0 : Dm (.imm L_BatSig)) (x1 : Dm (.imm L_BatSig)) (h0 : Dn I) : r_ce g_cd (x0, x1, ()) (k + 1) pt0 (h0_ce x0 x1 h0) =
  (bif (decide (h0 < (List.length x0 : Int))) then (bif (bif (decide ((0 : Int) <= h0)) then (decide (h0 < (List.length x0 : Int))) else false) then (bif (bif (decide ((0 : Int) <= h0)) then (decide (h0 < (List.length x1 : Int))) else false) then (bif (bif (g_cd ((rdL (e := S_DayDay) x0 h0), ((rdL (e := S_DayDay) x1 h0), ()))).1 then false else true) then (some (false, ())) else (r_ce g_cd (x0, x1, ()) k pt0 (h0_ce x0 x1 (w64 (h0 + (1 : Int)))))) else none) else none) else (some (true, ()))) := by kernel_rfl
theorem S_ce (h_cd : C_cd (fun _ => true) g_cd) {pre : In_ce -> Bool} {fn : In_ce -> Out_ce} (hev : ∀ x, pre x = true -> ∃ k, E_ce g_cd k x = some (fn x)) : C_ce pre fn := sound tysOk mixed (fn := Try.f95) rfl rfl rfl (.cons h_cd .nil) _ hev
end
/-! cf: leqBoolS -/
abbrev M_cf : List Vm.Mode := [.imm L_bool, .imm L_bool]
abbrev R_cf : List (RK × Sh) := [(.imm, .bool)]
abbrev In_cf : Type := (insSh M_cf).den
abbrev Out_cf : Type := (outSh R_cf M_cf).den
abbrev C_cf (pre : In_cf -> Bool) (fn : In_cf -> Out_cf) : Prop := Sound Try.prog 96 ⟨M_cf, R_cf, pre, fn⟩
abbrev X_cf : Ctx := ctx tys 26 (conOf []) (keepOf [(pt0, (⟨[(0, .asis), (1, .asis), (5, .asis)], [], []⟩ : Keep))]) (fun _ => [])
noncomputable abbrev E_cf (k : Nat) (x : In_cf) : Option Out_cf := evFn X_cf Try.f96 R_cf M_cf k x
def h0_cf (x0 : Dm (.imm L_bool)) (x1 : Dm (.imm L_bool)) (h0 : Dn I) : St := mkS [(0, (AV.val L_bool x0)), (1, (AV.val L_bool x1)), (5, (AV.val I h0))] []
noncomputable def r_cf (x : In_cf) (k : Nat) (p : List Bool) (s : St) : Option Out_cf := rounds X_cf Try.f96 R_cf M_cf x k p s
theorem ev_cf (k : Nat) (x0 : Dm (.imm L_bool)) (x1 : Dm (.imm L_bool)) : E_cf k (x0, x1, ()) =
  (bif (bif (decide ((List.length x0 : Int) = (List.length x1 : Int))) then false else true) then (some (false, ())) else (r_cf  (x0, x1, ()) k pt0 (h0_cf x0 x1 (0 : Int)))) := by kernel_rfl
theorem rd0_cf (k : Nat) (x0 : Dm (.imm L_bool)) (x1 : Dm (.imm L_bool)) (h0 : Dn I) : r_cf  (x0, x1, ()) (k + 1) pt0 (h0_cf x0 x1 h0) =
  (bif (decide (h0 < (List.length x0 : Int))) then (bif (bif (decide ((0 : Int) <= h0)) then (decide (h0 < (List.length x0 : Int))) else false) then (bif (bif (decide ((0 : Int) <= h0)) then (decide (h0 < (List.length x1 : Int))) else false) then (bif (bif ((rdL (e := Sh.bool) x0 h0) == (rdL (e := Sh.bool) x1 h0)) then false else true) then (some (false, ())) else (r_cf  (x0, x1, ()) k pt0 (h0_cf x0 x1 (w64 (h0 + (1 : Int)))))) else none) else none) else (some (true, ()))) := by kernel_rfl
theorem S_cf  {pre : In_cf -> Bool} {fn : In_cf -> Out_cf} (hev : ∀ x, pre x = true -> ∃ k, E_cf k x = some (fn x)) : C_cf pre fn := sound tysOk mixed (fn := Try.f96) rfl rfl rfl ConsOk.nil _ hev
/-! cg: leqBatBatch -/
abbrev M_cg : List Vm.Mode := [.imm S_BatBatch, .imm S_BatBatch]
abbrev R_cg : List (RK × Sh) := [(.imm, .bool)]
abbrev In_cg : Type := (insSh M_cg).den
abbrev Out_cg : Type := (outSh R_cg M_cg).den
abbrev C_cg (pre : In_cg -> Bool) (fn : In_cg -> Out_cg) : Prop := Sound Try.prog 35 ⟨M_cg, R_cg, pre, fn⟩
section
variable (g_cc : In_cc -> Out_cc) (p_cc : In_cc -> Bool) (g_ce : In_ce -> Out_ce) (p_ce : In_ce -> Bool) (g_cf : In_cf -> Out_cf) (p_cf : In_cf -> Bool)
abbrev X_cg : Ctx := ctx tys 38 (conOf [(94, ⟨M_cc, R_cc, p_cc, g_cc⟩), (95, ⟨M_ce, R_ce, p_ce, g_ce⟩), (96, ⟨M_cf, R_cf, p_cf, g_cf⟩)]) (keepOf []) (fun _ => [])
noncomputable abbrev E_cg (k : Nat) (x : In_cg) : Option Out_cg := evFn (X_cg g_cc p_cc g_ce p_ce g_cf p_cf) Try.f35 R_cg M_cg k x
variable {g_cc p_cc g_ce p_ce g_cf p_cf}
theorem ev_cg (k : Nat) (x0 : Dm (.imm S_BatBatch)) (x1 : Dm (.imm S_BatBatch)) : E_cg g_cc p_cc g_ce p_ce g_cf p_cf k (x0, x1, ()) =
  (bif (bif (decide (x0.1 = x1.1)) then false else true) then (some (false, ())) else (bif (bif (decide (x0.2.1 = x1.2.1)) then false else true) then (some (false, ())) else (cl (p_cc (x0.2.2.1, (x1.2.2.1, ()))) (g_cc (x0.2.2.1, (x1.2.2.1, ()))) fun y0 => (bif (bif y0.1 then false else true) then (some (false, ())) else (bif (bif (decide (x0.2.2.2.1 = x1.2.2.2.1)) then false else true) then (some (false, ())) else (cl (p_ce (x0.2.2.2.2.1, (x1.2.2.2.2.1, ()))) (g_ce (x0.2.2.2.2.1, (x1.2.2.2.2.1, ()))) fun y1 => (bif (bif y1.1 then false else true) then (some (false, ())) else (cl (p_cf (x0.2.2.2.2.2, (x1.2.2.2.2.2, ()))) (g_cf (x0.2.2.2.2.2, (x1.2.2.2.2.2, ()))) fun y2 => (bif (bif y2.1 then false else true) then (some (false, ())) else (some (true, ()))))))))))) := by kernel_rfl
theorem S_cg (h_cc : C_cc p_cc g_cc) (h_ce : C_ce p_ce g_ce) (h_cf : C_cf p_cf g_cf) {pre : In_cg -> Bool} {fn : In_cg -> Out_cg} (hev : ∀ x, pre x = true -> ∃ k, E_cg g_cc p_cc g_ce p_ce g_cf p_cf k x = some (fn x)) : C_cg pre fn := sound tysOk mixed (fn := Try.f35) rfl rfl rfl (.cons h_cc (.cons h_ce (.cons h_cf .nil))) _ hev
end
/-! ch: lmarkDecDecS -/
abbrev M_ch : List Vm.Mode := [.lend 24 S_DecDec, .imm I]
abbrev R_ch : List (RK × Sh) := [(.imm, I)]
abbrev In_ch : Type := (insSh M_ch).den
abbrev Out_ch : Type := (outSh R_ch M_ch).den
abbrev C_ch (pre : In_ch -> Bool) (fn : In_ch -> Out_ch) : Prop := Sound Try.prog 136 ⟨M_ch, R_ch, pre, fn⟩
abbrev X_ch : Ctx := ctx tys 27 (conOf []) (keepOf [(pt1, (⟨[(0, .asis), (1, .asis), (5, .asis)], [], [5000]⟩ : Keep))]) (fun _ => [])
noncomputable abbrev E_ch (k : Nat) (x : In_ch) : Option Out_ch := evFn X_ch Try.f136 R_ch M_ch k x
def h0_ch (x0 : Dm (.lend 24 S_DecDec)) (x1 : Dm (.imm I)) (h0 : Dn I) (h1 : Dn I) (h2 : (List (Dn S_DecDec))) : St := mkS [(0, (AV.sref 5000 none [])), (1, (AV.val I h0)), (5, (AV.val I h1))] [(5000, (Ob.arr 24 S_DecDec h2))]
noncomputable def r_ch (x : In_ch) (k : Nat) (p : List Bool) (s : St) : Option Out_ch := rounds X_ch Try.f136 R_ch M_ch x k p s
theorem ev_ch (k : Nat) (x0 : Dm (.lend 24 S_DecDec)) (x1 : Dm (.imm I)) : E_ch k (x0, x1, ()) =
  (r_ch  (x0, x1, ()) k pt1 (h0_ch x0 x1 x1 (0 : Int) x0)) := by kernel_rfl
theorem rd0_ch (k : Nat) (x0 : Dm (.lend 24 S_DecDec)) (x1 : Dm (.imm I)) (h0 : Dn I) (h1 : Dn I) (h2 : (List (Dn S_DecDec))) : r_ch  (x0, x1, ()) (k + 1) pt1 (h0_ch x0 x1 h0 h1 h2) =
  (bif (decide (h1 < (List.length h2 : Int))) then (bif (bif (decide ((0 : Int) <= h1)) then (decide (h1 < (List.length h2 : Int))) else false) then (bif (bif (decide ((0 : Int) <= h1)) then (decide (h1 < (List.length (List.set h2 (Int.toNat h1) (h0, (rdL (e := S_DecDec) h2 h1).2)) : Int))) else false) then (r_ch  (x0, x1, ()) k pt1 (h0_ch x0 x1 (w64 ((w64 (h0 + (1 : Int))) + (1 : Int))) (w64 (h1 + (1 : Int))) (List.set (List.set h2 (Int.toNat h1) (h0, (rdL (e := S_DecDec) h2 h1).2)) (Int.toNat h1) ((rdL (e := S_DecDec) (List.set h2 (Int.toNat h1) (h0, (rdL (e := S_DecDec) h2 h1).2)) h1).1, (w64 (h0 + (1 : Int))))))) else none) else none) else (some (h0, (h2, ())))) := by kernel_rfl
theorem S_ch  {pre : In_ch -> Bool} {fn : In_ch -> Out_ch} (hev : ∀ x, pre x = true -> ∃ k, E_ch k x = some (fn x)) : C_ch pre fn := sound tysOk mixed (fn := Try.f136) rfl rfl rfl ConsOk.nil _ hev
/-! ci: lmarkTstTestS -/
abbrev M_ci : List Vm.Mode := [.lend 29 S_TstTest, .imm I]
abbrev R_ci : List (RK × Sh) := [(.imm, I)]
abbrev In_ci : Type := (insSh M_ci).den
abbrev Out_ci : Type := (outSh R_ci M_ci).den
abbrev C_ci (pre : In_ci -> Bool) (fn : In_ci -> Out_ci) : Prop := Sound Try.prog 98 ⟨M_ci, R_ci, pre, fn⟩
section
variable (g_ch : In_ch -> Out_ch) (p_ch : In_ch -> Bool)
abbrev X_ci : Ctx := ctx tys 102 (conOf [(136, ⟨M_ch, R_ch, p_ch, g_ch⟩)]) (keepOf [(pt1, (⟨[(0, .asis), (1, .asis), (5, .asis)], [], [5000]⟩ : Keep))]) (fun _ => [])
noncomputable abbrev E_ci (k : Nat) (x : In_ci) : Option Out_ci := evFn (X_ci g_ch p_ch) Try.f98 R_ci M_ci k x
def h0_ci (x0 : Dm (.lend 29 S_TstTest)) (x1 : Dm (.imm I)) (h0 : Dn I) (h1 : Dn I) (h2 : (List (Dn S_TstTest))) : St := mkS [(0, (AV.sref 5000 none [])), (1, (AV.val I h0)), (5, (AV.val I h1))] [(5000, (Ob.arr 29 S_TstTest h2))]
noncomputable def r_ci (x : In_ci) (k : Nat) (p : List Bool) (s : St) : Option Out_ci := rounds (X_ci g_ch p_ch) Try.f98 R_ci M_ci x k p s
variable {g_ch p_ch}
theorem ev_ci (k : Nat) (x0 : Dm (.lend 29 S_TstTest)) (x1 : Dm (.imm I)) : E_ci g_ch p_ch k (x0, x1, ()) =
  (r_ci g_ch p_ch (x0, x1, ()) k pt1 (h0_ci x0 x1 x1 (0 : Int) x0)) := by kernel_rfl
theorem rd0_ci (k : Nat) (x0 : Dm (.lend 29 S_TstTest)) (x1 : Dm (.imm I)) (h0 : Dn I) (h1 : Dn I) (h2 : (List (Dn S_TstTest))) : r_ci g_ch p_ch (x0, x1, ()) (k + 1) pt1 (h0_ci x0 x1 h0 h1 h2) =
  (lt (rdL (e := S_TstTest) h2 h1) fun t0 => (lt (List.set h2 (Int.toNat h1) ((h0, t0.1.2), t0.2)) fun s0 => (lt (rdL (e := S_TstTest) s0 h1) fun t1 => (lt (List.set s0 (Int.toNat h1) ((t1.1.1, (((w64 (h0 + (1 : Int))), t1.1.2.1.2), t1.1.2.2)), t1.2)) fun t2 => (lt (rdL (e := S_TstTest) t2 h1) fun t3 => (lt (w64 ((w64 (h0 + (1 : Int))) + (1 : Int))) fun t4 => (lt (List.set t2 (Int.toNat h1) ((t3.1.1, ((t3.1.2.1.1, t4), t3.1.2.2)), t3.2)) fun t5 => (lt (rdL (e := S_TstTest) t5 h1) fun t6 => (lt (List.set t5 (Int.toNat h1) ((t6.1.1, (t6.1.2.1, (((w64 (t4 + (1 : Int))), t6.1.2.2.1.2), t6.1.2.2.2))), t6.2)) fun t7 => (lt (rdL (e := S_TstTest) t7 h1) fun t8 => (lt (w64 ((w64 (t4 + (1 : Int))) + (1 : Int))) fun t9 => (lt (List.set t7 (Int.toNat h1) ((t8.1.1, (t8.1.2.1, ((t8.1.2.2.1.1, t9), t8.1.2.2.2))), t8.2)) fun t10 => (lt (rdL (e := S_TstTest) t10 h1) fun t11 => (lt (List.set t10 (Int.toNat h1) ((t11.1.1, (t11.1.2.1, (t11.1.2.2.1, (w64 (t9 + (1 : Int)))))), t11.2)) fun t12 => (lt (rdL (e := S_TstTest) t12 h1) fun t13 => (lt (w64 ((w64 (t9 + (1 : Int))) + (1 : Int))) fun t14 => (lt (List.set t12 (Int.toNat h1) (t13.1, (t14, t13.2.2))) fun s1 => (lt (rdL (e := S_TstTest) s1 h1) fun t15 => (lt (List.set s1 (Int.toNat h1) (t15.1, (t15.2.1, (((w64 (t14 + (1 : Int))), t15.2.2.1.2), t15.2.2.2)))) fun t16 => (lt (rdL (e := S_TstTest) t16 h1) fun t17 => (lt (w64 ((w64 (t14 + (1 : Int))) + (1 : Int))) fun t18 => (lt (List.set t16 (Int.toNat h1) (t17.1, (t17.2.1, ((t17.2.2.1.1, t18), t17.2.2.2)))) fun t19 => (lt (rdL (e := S_TstTest) t19 h1) fun t20 => (lt (List.set t19 (Int.toNat h1) (t20.1, (t20.2.1, (t20.2.2.1, ((w64 (t18 + (1 : Int))), t20.2.2.2.2))))) fun t21 => (lt (rdL (e := S_TstTest) t21 h1) fun t22 => (lt (w64 ((w64 (t18 + (1 : Int))) + (1 : Int))) fun t23 => (bif (decide (h1 < (List.length h2 : Int))) then (bif (bif (decide ((0 : Int) <= h1)) then (decide (h1 < (List.length h2 : Int))) else false) then (bif (bif (decide ((0 : Int) <= h1)) then (decide (h1 < (List.length s0 : Int))) else false) then (bif (bif (decide ((0 : Int) <= h1)) then (decide (h1 < (List.length t2 : Int))) else false) then (bif (bif (decide ((0 : Int) <= h1)) then (decide (h1 < (List.length t5 : Int))) else false) then (bif (bif (decide ((0 : Int) <= h1)) then (decide (h1 < (List.length t7 : Int))) else false) then (bif (bif (decide ((0 : Int) <= h1)) then (decide (h1 < (List.length t10 : Int))) else false) then (bif (bif (decide ((0 : Int) <= h1)) then (decide (h1 < (List.length t12 : Int))) else false) then (bif (bif (decide ((0 : Int) <= h1)) then (decide (h1 < (List.length s1 : Int))) else false) then (bif (bif (decide ((0 : Int) <= h1)) then (decide (h1 < (List.length t16 : Int))) else false) then (bif (bif (decide ((0 : Int) <= h1)) then (decide (h1 < (List.length t19 : Int))) else false) then (bif (bif (decide ((0 : Int) <= h1)) then (decide (h1 < (List.length t21 : Int))) else false) then (cl (p_ch (t22.2.2.2.2, (t23, ()))) (g_ch (t22.2.2.2.2, (t23, ()))) fun y0 => (r_ci g_ch p_ch (x0, x1, ()) k pt1 (h0_ci x0 x1 (y0.1) (w64 (h1 + (1 : Int))) (List.set t21 (Int.toNat h1) (t22.1, (t22.2.1, (t22.2.2.1, (t22.2.2.2.1, y0.2.1)))))))) else none) else none) else none) else none) else none) else none) else none) else none) else none) else none) else none) else (some (h0, (h2, ())))))))))))))))))))))))))))))) := by kernel_rfl
theorem S_ci (h_ch : C_ch p_ch g_ch) {pre : In_ci -> Bool} {fn : In_ci -> Out_ci} (hev : ∀ x, pre x = true -> ∃ k, E_ci g_ch p_ch k x = some (fn x)) : C_ci pre fn := sound tysOk mixed (fn := Try.f98) rfl rfl rfl (.cons h_ch .nil) _ hev
end
/-! cj: lmarkBatSigS -/
abbrev M_cj : List Vm.Mode := [.lend 133 S_DayDay, .imm I]
abbrev R_cj : List (RK × Sh) := [(.imm, I)]
abbrev In_cj : Type := (insSh M_cj).den
abbrev Out_cj : Type := (outSh R_cj M_cj).den
abbrev C_cj (pre : In_cj -> Bool) (fn : In_cj -> Out_cj) : Prop := Sound Try.prog 99 ⟨M_cj, R_cj, pre, fn⟩
abbrev X_cj : Ctx := ctx tys 34 (conOf []) (keepOf [(pt1, (⟨[(0, .asis), (1, .asis), (5, .asis)], [], [5000]⟩ : Keep))]) (fun _ => [])
noncomputable abbrev E_cj (k : Nat) (x : In_cj) : Option Out_cj := evFn X_cj Try.f99 R_cj M_cj k x
def h0_cj (x0 : Dm (.lend 133 S_DayDay)) (x1 : Dm (.imm I)) (h0 : Dn I) (h1 : Dn I) (h2 : (List (Dn S_DayDay))) : St := mkS [(0, (AV.sref 5000 none [])), (1, (AV.val I h0)), (5, (AV.val I h1))] [(5000, (Ob.arr 133 S_DayDay h2))]
noncomputable def r_cj (x : In_cj) (k : Nat) (p : List Bool) (s : St) : Option Out_cj := rounds X_cj Try.f99 R_cj M_cj x k p s
theorem ev_cj (k : Nat) (x0 : Dm (.lend 133 S_DayDay)) (x1 : Dm (.imm I)) : E_cj k (x0, x1, ()) =
  (r_cj  (x0, x1, ()) k pt1 (h0_cj x0 x1 x1 (0 : Int) x0)) := by kernel_rfl
theorem rd0_cj (k : Nat) (x0 : Dm (.lend 133 S_DayDay)) (x1 : Dm (.imm I)) (h0 : Dn I) (h1 : Dn I) (h2 : (List (Dn S_DayDay))) : r_cj  (x0, x1, ()) (k + 1) pt1 (h0_cj x0 x1 h0 h1 h2) =
  (lt (rdL (e := S_DayDay) h2 h1) fun s1 => (lt (List.set h2 (Int.toNat h1) (h0, s1.2)) fun s2 => (lt (w64 (h0 + (1 : Int))) fun s0 => (bif (decide (h1 < (List.length h2 : Int))) then (bif (bif (decide ((0 : Int) <= h1)) then (decide (h1 < (List.length h2 : Int))) else false) then (bif (bif (decide ((0 : Int) <= h1)) then (decide (h1 < (List.length s2 : Int))) else false) then (bif (bif (decide ((0 : Int) <= h1)) then (decide (h1 < (List.length (List.set s2 (Int.toNat h1) ((rdL (e := S_DayDay) s2 h1).1, (s0, (rdL (e := S_DayDay) s2 h1).2.2))) : Int))) else false) then (r_cj  (x0, x1, ()) k pt1 (h0_cj x0 x1 (w64 ((w64 (s0 + (1 : Int))) + (1 : Int))) (w64 (h1 + (1 : Int))) (List.set (List.set s2 (Int.toNat h1) ((rdL (e := S_DayDay) s2 h1).1, (s0, (rdL (e := S_DayDay) s2 h1).2.2))) (Int.toNat h1) ((rdL (e := S_DayDay) (List.set s2 (Int.toNat h1) ((rdL (e := S_DayDay) s2 h1).1, (s0, (rdL (e := S_DayDay) s2 h1).2.2))) h1).1, ((rdL (e := S_DayDay) (List.set s2 (Int.toNat h1) ((rdL (e := S_DayDay) s2 h1).1, (s0, (rdL (e := S_DayDay) s2 h1).2.2))) h1).2.1, (w64 (s0 + (1 : Int)))))))) else none) else none) else none) else (some (h0, (h2, ()))))))) := by kernel_rfl
theorem S_cj  {pre : In_cj -> Bool} {fn : In_cj -> Out_cj} (hev : ∀ x, pre x = true -> ∃ k, E_cj k x = some (fn x)) : C_cj pre fn := sound tysOk mixed (fn := Try.f99) rfl rfl rfl ConsOk.nil _ hev
/-! ck: lmarkBoolS -/
abbrev M_ck : List Vm.Mode := [.lend 4 .bool, .imm I]
abbrev R_ck : List (RK × Sh) := [(.imm, I)]
abbrev In_ck : Type := (insSh M_ck).den
abbrev Out_ck : Type := (outSh R_ck M_ck).den
abbrev C_ck (pre : In_ck -> Bool) (fn : In_ck -> Out_ck) : Prop := Sound Try.prog 100 ⟨M_ck, R_ck, pre, fn⟩
abbrev X_ck : Ctx := ctx tys 21 (conOf []) (keepOf [(pt1, (⟨[(0, .asis), (1, .asis), (5, .asis)], [], [5000]⟩ : Keep))]) (fun _ => [])
noncomputable abbrev E_ck (k : Nat) (x : In_ck) : Option Out_ck := evFn X_ck Try.f100 R_ck M_ck k x
def h0_ck (x0 : Dm (.lend 4 .bool)) (x1 : Dm (.imm I)) (h0 : Dn I) (h1 : Dn I) (h2 : (List (Dn Sh.bool))) : St := mkS [(0, (AV.sref 5000 none [])), (1, (AV.val I h0)), (5, (AV.val I h1))] [(5000, (Ob.arr 4 Sh.bool h2))]
noncomputable def r_ck (x : In_ck) (k : Nat) (p : List Bool) (s : St) : Option Out_ck := rounds X_ck Try.f100 R_ck M_ck x k p s
theorem ev_ck (k : Nat) (x0 : Dm (.lend 4 .bool)) (x1 : Dm (.imm I)) : E_ck k (x0, x1, ()) =
  (r_ck  (x0, x1, ()) k pt1 (h0_ck x0 x1 x1 (0 : Int) x0)) := by kernel_rfl
theorem rd0_ck (k : Nat) (x0 : Dm (.lend 4 .bool)) (x1 : Dm (.imm I)) (h0 : Dn I) (h1 : Dn I) (h2 : (List (Dn Sh.bool))) : r_ck  (x0, x1, ()) (k + 1) pt1 (h0_ck x0 x1 h0 h1 h2) =
  (bif (decide (h1 < (List.length h2 : Int))) then (bif (bif (decide ((3 : Int) = (0 : Int))) then false else true) then (bif (bif (decide ((0 : Int) <= h1)) then (decide (h1 < (List.length h2 : Int))) else false) then (r_ck  (x0, x1, ()) k pt1 (h0_ck x0 x1 (w64 (h0 + (1 : Int))) (w64 (h1 + (1 : Int))) (List.set h2 (Int.toNat h1) (decide ((Int.tmod h0 (3 : Int)) = (0 : Int)))))) else none) else none) else (some (h0, (h2, ())))) := by kernel_rfl
theorem S_ck  {pre : In_ck -> Bool} {fn : In_ck -> Out_ck} (hev : ∀ x, pre x = true -> ∃ k, E_ck k x = some (fn x)) : C_ck pre fn := sound tysOk mixed (fn := Try.f100) rfl rfl rfl ConsOk.nil _ hev
/-! cl: lmarkBatBatch -/
abbrev M_cl : List Vm.Mode := [.loan S_BatBatch, .imm I]
abbrev R_cl : List (RK × Sh) := [(.imm, I)]
abbrev In_cl : Type := (insSh M_cl).den
abbrev Out_cl : Type := (outSh R_cl M_cl).den
abbrev C_cl (pre : In_cl -> Bool) (fn : In_cl -> Out_cl) : Prop := Sound Try.prog 38 ⟨M_cl, R_cl, pre, fn⟩
section
variable (g_ci : In_ci -> Out_ci) (p_ci : In_ci -> Bool) (g_cj : In_cj -> Out_cj) (p_cj : In_cj -> Bool) (g_ck : In_ck -> Out_ck) (p_ck : In_ck -> Bool)
abbrev X_cl : Ctx := ctx tys 18 (conOf [(98, ⟨M_ci, R_ci, p_ci, g_ci⟩), (99, ⟨M_cj, R_cj, p_cj, g_cj⟩), (100, ⟨M_ck, R_ck, p_ck, g_ck⟩)]) (keepOf []) (fun _ => [])
noncomputable abbrev E_cl (k : Nat) (x : In_cl) : Option Out_cl := evFn (X_cl g_ci p_ci g_cj p_cj g_ck p_ck) Try.f38 R_cl M_cl k x
variable {g_ci p_ci g_cj p_cj g_ck p_ck}
theorem ev_cl (k : Nat) (x0 : Dm (.loan S_BatBatch)) (x1 : Dm (.imm I)) : E_cl g_ci p_ci g_cj p_cj g_ck p_ck k (x0, x1, ()) =
  (cl (p_ci (x0.2.2.1, (x1, ()))) (g_ci (x0.2.2.1, (x1, ()))) fun y0 => (cl (p_cj (x0.2.2.2.2.1, (y0.1, ()))) (g_cj (x0.2.2.2.2.1, (y0.1, ()))) fun y1 => (cl (p_ck (x0.2.2.2.2.2, (y1.1, ()))) (g_ck (x0.2.2.2.2.2, (y1.1, ()))) fun y2 => (some (y2.1, ((x0.1, (x0.2.1, (y0.2.1, (x0.2.2.2.1, (y1.2.1, y2.2.1))))), ())))))) := by kernel_rfl
theorem S_cl (h_ci : C_ci p_ci g_ci) (h_cj : C_cj p_cj g_cj) (h_ck : C_ck p_ck g_ck) {pre : In_cl -> Bool} {fn : In_cl -> Out_cl} (hev : ∀ x, pre x = true -> ∃ k, E_cl g_ci p_ci g_cj p_cj g_ck p_ck k x = some (fn x)) : C_cl pre fn := sound tysOk mixed (fn := Try.f38) rfl rfl rfl (.cons h_ci (.cons h_cj (.cons h_ck .nil))) _ hev
end
/-! cm: lmarkSpcTestS -/
abbrev M_cm : List Vm.Mode := [.lend 26 S_SpcTest, .imm I]
abbrev R_cm : List (RK × Sh) := [(.imm, I)]
abbrev In_cm : Type := (insSh M_cm).den
abbrev Out_cm : Type := (outSh R_cm M_cm).den
abbrev C_cm (pre : In_cm -> Bool) (fn : In_cm -> Out_cm) : Prop := Sound Try.prog 37 ⟨M_cm, R_cm, pre, fn⟩
abbrev X_cm : Ctx := ctx tys 59 (conOf []) (keepOf [(pt1, (⟨[(0, .asis), (1, .asis), (5, .asis)], [], [5000]⟩ : Keep))]) (fun _ => [])
noncomputable abbrev E_cm (k : Nat) (x : In_cm) : Option Out_cm := evFn X_cm Try.f37 R_cm M_cm k x
def h0_cm (x0 : Dm (.lend 26 S_SpcTest)) (x1 : Dm (.imm I)) (h0 : Dn I) (h1 : Dn I) (h2 : (List (Dn S_SpcTest))) : St := mkS [(0, (AV.sref 5000 none [])), (1, (AV.val I h0)), (5, (AV.val I h1))] [(5000, (Ob.arr 26 S_SpcTest h2))]
noncomputable def r_cm (x : In_cm) (k : Nat) (p : List Bool) (s : St) : Option Out_cm := rounds X_cm Try.f37 R_cm M_cm x k p s
theorem ev_cm (k : Nat) (x0 : Dm (.lend 26 S_SpcTest)) (x1 : Dm (.imm I)) : E_cm k (x0, x1, ()) =
  (r_cm  (x0, x1, ()) k pt1 (h0_cm x0 x1 x1 (0 : Int) x0)) := by kernel_rfl
theorem rd0_cm (k : Nat) (x0 : Dm (.lend 26 S_SpcTest)) (x1 : Dm (.imm I)) (h0 : Dn I) (h1 : Dn I) (h2 : (List (Dn S_SpcTest))) : r_cm  (x0, x1, ()) (k + 1) pt1 (h0_cm x0 x1 h0 h1 h2) =
  (lt (rdL (e := S_SpcTest) h2 h1) fun t0 => (lt (rdL (e := S_SpcTest) (List.set h2 (Int.toNat h1) (h0, t0.2)) h1) fun t1 => (lt (List.set (List.set h2 (Int.toNat h1) (h0, t0.2)) (Int.toNat h1) (t1.1, (((w64 (h0 + (1 : Int))), t1.2.1.2), t1.2.2))) fun t2 => (lt (rdL (e := S_SpcTest) t2 h1) fun t3 => (lt (w64 ((w64 (h0 + (1 : Int))) + (1 : Int))) fun t4 => (lt (List.set t2 (Int.toNat h1) (t3.1, ((t3.2.1.1, t4), t3.2.2))) fun t5 => (lt (rdL (e := S_SpcTest) t5 h1) fun t6 => (lt (List.set t5 (Int.toNat h1) (t6.1, (t6.2.1, (((w64 (t4 + (1 : Int))), t6.2.2.1.2), t6.2.2.2)))) fun t7 => (lt (rdL (e := S_SpcTest) t7 h1) fun t8 => (lt (w64 ((w64 (t4 + (1 : Int))) + (1 : Int))) fun t9 => (lt (List.set t7 (Int.toNat h1) (t8.1, (t8.2.1, ((t8.2.2.1.1, t9), t8.2.2.2)))) fun t10 => (lt (rdL (e := S_SpcTest) t10 h1) fun t12 => (bif (decide (h1 < (List.length h2 : Int))) then (bif (bif (decide ((0 : Int) <= h1)) then (decide (h1 < (List.length h2 : Int))) else false) then (bif (bif (decide ((0 : Int) <= h1)) then (decide (h1 < (List.length (List.set h2 (Int.toNat h1) (h0, t0.2)) : Int))) else false) then (bif (bif (decide ((0 : Int) <= h1)) then (decide (h1 < (List.length t2 : Int))) else false) then (bif (bif (decide ((0 : Int) <= h1)) then (decide (h1 < (List.length t5 : Int))) else false) then (bif (bif (decide ((0 : Int) <= h1)) then (decide (h1 < (List.length t7 : Int))) else false) then (bif (bif (decide ((0 : Int) <= h1)) then (decide (h1 < (List.length t10 : Int))) else false) then (r_cm  (x0, x1, ()) k pt1 (h0_cm x0 x1 (w64 ((w64 (t9 + (1 : Int))) + (1 : Int))) (w64 (h1 + (1 : Int))) (List.set t10 (Int.toNat h1) (t12.1, (t12.2.1, (t12.2.2.1, (w64 (t9 + (1 : Int))))))))) else none) else none) else none) else none) else none) else none) else (some (h0, (h2, ())))))))))))))))) := by kernel_rfl
theorem S_cm  {pre : In_cm -> Bool} {fn : In_cm -> Out_cm} (hev : ∀ x, pre x = true -> ∃ k, E_cm k x = some (fn x)) : C_cm pre fn := sound tysOk mixed (fn := Try.f37) rfl rfl rfl ConsOk.nil _ hev
/-! cn: lmarkCerCer -/
abbrev M_cn : List Vm.Mode := [.loan S_CerCer, .imm I]
abbrev R_cn : List (RK × Sh) := [(.imm, I)]
abbrev In_cn : Type := (insSh M_cn).den
abbrev Out_cn : Type := (outSh R_cn M_cn).den
abbrev C_cn (pre : In_cn -> Bool) (fn : In_cn -> Out_cn) : Prop := Sound Try.prog 60 ⟨M_cn, R_cn, pre, fn⟩
section
variable (g_cm : In_cm -> Out_cm) (p_cm : In_cm -> Bool) (g_ch : In_ch -> Out_ch) (p_ch : In_ch -> Bool)
abbrev X_cn : Ctx := ctx tys 14 (conOf [(37, ⟨M_cm, R_cm, p_cm, g_cm⟩), (136, ⟨M_ch, R_ch, p_ch, g_ch⟩)]) (keepOf []) (fun _ => [])
noncomputable abbrev E_cn (k : Nat) (x : In_cn) : Option Out_cn := evFn (X_cn g_cm p_cm g_ch p_ch) Try.f60 R_cn M_cn k x
variable {g_cm p_cm g_ch p_ch}
theorem ev_cn (k : Nat) (x0 : Dm (.loan S_CerCer)) (x1 : Dm (.imm I)) : E_cn g_cm p_cm g_ch p_ch k (x0, x1, ()) =
  (cl (p_cm (x0.2.1, (x1, ()))) (g_cm (x0.2.1, (x1, ()))) fun y0 => (cl (p_ch (x0.2.2.1, (y0.1, ()))) (g_ch (x0.2.2.1, (y0.1, ()))) fun y1 => (some (y1.1, ((x0.1, (y0.2.1, (y1.2.1, x0.2.2.2))), ()))))) := by kernel_rfl
theorem S_cn (h_cm : C_cm p_cm g_cm) (h_ch : C_ch p_ch g_ch) {pre : In_cn -> Bool} {fn : In_cn -> Out_cn} (hev : ∀ x, pre x = true -> ∃ k, E_cn g_cm p_cm g_ch p_ch k x = some (fn x)) : C_cn pre fn := sound tysOk mixed (fn := Try.f60) rfl rfl rfl (.cons h_cm (.cons h_ch .nil)) _ hev
end
/-! co: lheldSpcTestS -/
abbrev M_co : List Vm.Mode := [.imm L_SpcTest, .imm I]
abbrev R_co : List (RK × Sh) := [(.imm, I)]
abbrev In_co : Type := (insSh M_co).den
abbrev Out_co : Type := (outSh R_co M_co).den
abbrev C_co (pre : In_co -> Bool) (fn : In_co -> Out_co) : Prop := Sound Try.prog 137 ⟨M_co, R_co, pre, fn⟩
abbrev X_co : Ctx := ctx tys 71 (conOf []) (keepOf [(pt1, (⟨[(0, .asis), (1, .asis), (5, .asis)], [], []⟩ : Keep))]) (fun _ => [])
noncomputable abbrev E_co (k : Nat) (x : In_co) : Option Out_co := evFn X_co Try.f137 R_co M_co k x
def h0_co (x0 : Dm (.imm L_SpcTest)) (x1 : Dm (.imm I)) (h0 : Dn I) (h1 : Dn I) : St := mkS [(0, (AV.val L_SpcTest x0)), (1, (AV.val I h0)), (5, (AV.val I h1))] []
noncomputable def r_co (x : In_co) (k : Nat) (p : List Bool) (s : St) : Option Out_co := rounds X_co Try.f137 R_co M_co x k p s
theorem ev_co (k : Nat) (x0 : Dm (.imm L_SpcTest)) (x1 : Dm (.imm I)) : E_co k (x0, x1, ()) =
  (r_co  (x0, x1, ()) k pt1 (h0_co x0 x1 x1 (0 : Int))) := by kernel_rfl
theorem rd0_co (k : Nat) (x0 : Dm (.imm L_SpcTest)) (x1 : Dm (.imm I)) (h0 : Dn I) (h1 : Dn I) : r_co  (x0, x1, ()) (k + 1) pt1 (h0_co x0 x1 h0 h1) =
  (lt (rdL (e := S_SpcTest) x0 h1) fun s4 => (lt (w64 (h0 + (1 : Int))) fun s0 => (lt (w64 (s0 + (1 : Int))) fun s1 => (lt (w64 (s1 + (1 : Int))) fun s2 => (lt (w64 (s2 + (1 : Int))) fun s3 => (bif (decide (h1 < (List.length x0 : Int))) then (bif (bif (decide ((0 : Int) <= h1)) then (decide (h1 < (List.length x0 : Int))) else false) then (bif (bif (decide (s4.1 = h0)) then false else true) then (some ((-1 : Int), ())) else (bif (bif (decide ((0 : Int) <= h1)) then (decide (h1 < (List.length x0 : Int))) else false) then (bif (bif (decide (s4.2.1.1 = s0)) then false else true) then (some ((-1 : Int), ())) else (bif (bif (decide ((0 : Int) <= h1)) then (decide (h1 < (List.length x0 : Int))) else false) then (bif (bif (decide (s4.2.1.2 = s1)) then false else true) then (some ((-1 : Int), ())) else (bif (bif (decide ((0 : Int) <= h1)) then (decide (h1 < (List.length x0 : Int))) else false) then (bif (bif (decide (s4.2.2.1.1 = s2)) then false else true) then (some ((-1 : Int), ())) else (bif (bif (decide ((0 : Int) <= h1)) then (decide (h1 < (List.length x0 : Int))) else false) then (bif (bif (decide (s4.2.2.1.2 = s3)) then false else true) then (some ((-1 : Int), ())) else (bif (bif (decide ((0 : Int) <= h1)) then (decide (h1 < (List.length x0 : Int))) else false) then (bif (bif (decide (s4.2.2.2 = (w64 (s3 + (1 : Int))))) then false else true) then (some ((-1 : Int), ())) else (r_co  (x0, x1, ()) k pt1 (h0_co x0 x1 (w64 ((w64 (s3 + (1 : Int))) + (1 : Int))) (w64 (h1 + (1 : Int)))))) else none)) else none)) else none)) else none)) else none)) else none) else (some (h0, ())))))))) := by kernel_rfl
theorem S_co  {pre : In_co -> Bool} {fn : In_co -> Out_co} (hev : ∀ x, pre x = true -> ∃ k, E_co k x = some (fn x)) : C_co pre fn := sound tysOk mixed (fn := Try.f137) rfl rfl rfl ConsOk.nil _ hev
/-! cp: lheldDecDecS -/
abbrev M_cp : List Vm.Mode := [.imm L_DecDec, .imm I]
abbrev R_cp : List (RK × Sh) := [(.imm, I)]
abbrev In_cp : Type := (insSh M_cp).den
abbrev Out_cp : Type := (outSh R_cp M_cp).den
abbrev C_cp (pre : In_cp -> Bool) (fn : In_cp -> Out_cp) : Prop := Sound Try.prog 138 ⟨M_cp, R_cp, pre, fn⟩
abbrev X_cp : Ctx := ctx tys 31 (conOf []) (keepOf [(pt1, (⟨[(0, .asis), (1, .asis), (5, .asis)], [], []⟩ : Keep))]) (fun _ => [])
noncomputable abbrev E_cp (k : Nat) (x : In_cp) : Option Out_cp := evFn X_cp Try.f138 R_cp M_cp k x
def h0_cp (x0 : Dm (.imm L_DecDec)) (x1 : Dm (.imm I)) (h0 : Dn I) (h1 : Dn I) : St := mkS [(0, (AV.val L_DecDec x0)), (1, (AV.val I h0)), (5, (AV.val I h1))] []
noncomputable def r_cp (x : In_cp) (k : Nat) (p : List Bool) (s : St) : Option Out_cp := rounds X_cp Try.f138 R_cp M_cp x k p s
theorem ev_cp (k : Nat) (x0 : Dm (.imm L_DecDec)) (x1 : Dm (.imm I)) : E_cp k (x0, x1, ()) =
  (r_cp  (x0, x1, ()) k pt1 (h0_cp x0 x1 x1 (0 : Int))) := by kernel_rfl
theorem rd0_cp (k : Nat) (x0 : Dm (.imm L_DecDec)) (x1 : Dm (.imm I)) (h0 : Dn I) (h1 : Dn I) : r_cp  (x0, x1, ()) (k + 1) pt1 (h0_cp x0 x1 h0 h1) =
  (bif (decide (h1 < (List.length x0 : Int))) then (bif (bif (decide ((0 : Int) <= h1)) then (decide (h1 < (List.length x0 : Int))) else false) then (bif (bif (decide ((rdL (e := S_DecDec) x0 h1).1 = h0)) then false else true) then (some ((-1 : Int), ())) else (bif (bif (decide ((0 : Int) <= h1)) then (decide (h1 < (List.length x0 : Int))) else false) then (bif (bif (decide ((rdL (e := S_DecDec) x0 h1).2 = (w64 (h0 + (1 : Int))))) then false else true) then (some ((-1 : Int), ())) else (r_cp  (x0, x1, ()) k pt1 (h0_cp x0 x1 (w64 ((w64 (h0 + (1 : Int))) + (1 : Int))) (w64 (h1 + (1 : Int)))))) else none)) else none) else (some (h0, ()))) := by kernel_rfl
theorem S_cp  {pre : In_cp -> Bool} {fn : In_cp -> Out_cp} (hev : ∀ x, pre x = true -> ∃ k, E_cp k x = some (fn x)) : C_cp pre fn := sound tysOk mixed (fn := Try.f138) rfl rfl rfl ConsOk.nil _ hev
/-! cq: lheldCerCer -/
abbrev M_cq : List Vm.Mode := [.imm S_CerCer, .imm I]
abbrev R_cq : List (RK × Sh) := [(.imm, I)]
abbrev In_cq : Type := (insSh M_cq).den
abbrev Out_cq : Type := (outSh R_cq M_cq).den
abbrev C_cq (pre : In_cq -> Bool) (fn : In_cq -> Out_cq) : Prop := Sound Try.prog 61 ⟨M_cq, R_cq, pre, fn⟩
section
variable (g_co : In_co -> Out_co) (p_co : In_co -> Bool) (g_cp : In_cp -> Out_cp) (p_cp : In_cp -> Bool)
abbrev X_cq : Ctx := ctx tys 18 (conOf [(137, ⟨M_co, R_co, p_co, g_co⟩), (138, ⟨M_cp, R_cp, p_cp, g_cp⟩)]) (keepOf []) (fun _ => [])
noncomputable abbrev E_cq (k : Nat) (x : In_cq) : Option Out_cq := evFn (X_cq g_co p_co g_cp p_cp) Try.f61 R_cq M_cq k x
variable {g_co p_co g_cp p_cp}
theorem ev_cq (k : Nat) (x0 : Dm (.imm S_CerCer)) (x1 : Dm (.imm I)) : E_cq g_co p_co g_cp p_cp k (x0, x1, ()) =
  (cl (p_co (x0.2.1, (x1, ()))) (g_co (x0.2.1, (x1, ()))) fun y0 => (bif (decide (y0.1 < (0 : Int))) then (some ((-1 : Int), ())) else (cl (p_cp (x0.2.2.1, (y0.1, ()))) (g_cp (x0.2.2.1, (y0.1, ()))) fun y1 => (bif (decide (y1.1 < (0 : Int))) then (some ((-1 : Int), ())) else (some (y1.1, ())))))) := by kernel_rfl
theorem S_cq (h_co : C_co p_co g_co) (h_cp : C_cp p_cp g_cp) {pre : In_cq -> Bool} {fn : In_cq -> Out_cq} (hev : ∀ x, pre x = true -> ∃ k, E_cq g_co p_co g_cp p_cp k x = some (fn x)) : C_cq pre fn := sound tysOk mixed (fn := Try.f61) rfl rfl rfl (.cons h_co (.cons h_cp .nil)) _ hev
end
/-! lFnExactCerOf -/
abbrev M_lFnExactCerOf : List Vm.Mode := [.imm S_lBatBatch]
abbrev R_lFnExactCerOf : List (RK × Sh) := [(.own, .bool)]
abbrev In_lFnExactCerOf : Type := (insSh M_lFnExactCerOf).den
abbrev Out_lFnExactCerOf : Type := (outSh R_lFnExactCerOf M_lFnExactCerOf).den
abbrev C_lFnExactCerOf (pre : In_lFnExactCerOf -> Bool) (fn : In_lFnExactCerOf -> Out_lFnExactCerOf) : Prop := Sound Try.prog 12 ⟨M_lFnExactCerOf, R_lFnExactCerOf, pre, fn⟩
section
variable (g_a5 : In_a5 -> Out_a5) (p_a5 : In_a5 -> Bool) (g_ae : In_ae -> Out_ae) (p_ae : In_ae -> Bool) (g_az : In_az -> Out_az) (p_az : In_az -> Bool) (g_c5 : In_c5 -> Out_c5) (p_c5 : In_c5 -> Bool) (g_ca : In_ca -> Out_ca) (p_ca : In_ca -> Bool) (g_cg : In_cg -> Out_cg) (p_cg : In_cg -> Bool) (g_cl : In_cl -> Out_cl) (p_cl : In_cl -> Bool) (g_cn : In_cn -> Out_cn) (p_cn : In_cn -> Bool) (g_cq : In_cq -> Out_cq) (p_cq : In_cq -> Bool)
abbrev X_lFnExactCerOf : Ctx := ctx tys 96 (conOf [(40, ⟨M_a5, R_a5, p_a5, g_a5⟩), (42, ⟨M_ae, R_ae, p_ae, g_ae⟩), (57, ⟨M_az, R_az, p_az, g_az⟩), (58, ⟨M_c5, R_c5, p_c5, g_c5⟩), (59, ⟨M_ca, R_ca, p_ca, g_ca⟩), (35, ⟨M_cg, R_cg, p_cg, g_cg⟩), (38, ⟨M_cl, R_cl, p_cl, g_cl⟩), (60, ⟨M_cn, R_cn, p_cn, g_cn⟩), (61, ⟨M_cq, R_cq, p_cq, g_cq⟩)]) (keepOf []) (fun _ => [])
noncomputable abbrev E_lFnExactCerOf (k : Nat) (x : In_lFnExactCerOf) : Option Out_lFnExactCerOf := evFn (X_lFnExactCerOf g_a5 p_a5 g_ae p_ae g_az p_az g_c5 p_c5 g_ca p_ca g_cg p_cg g_cl p_cl g_cn p_cn g_cq p_cq) Try.f12 R_lFnExactCerOf M_lFnExactCerOf k x
variable {g_a5 p_a5 g_ae p_ae g_az p_az g_c5 p_c5 g_ca p_ca g_cg p_cg g_cl p_cl g_cn p_cn g_cq p_cq}
theorem ev_lFnExactCerOf (k : Nat) (x0 : Dm (.imm S_lBatBatch)) : E_lFnExactCerOf g_a5 p_a5 g_ae p_ae g_az p_az g_c5 p_c5 g_ca p_ca g_cg p_cg g_cl p_cl g_cn p_cn g_cq p_cq k (x0, ()) =
  (cl (p_a5 (x0, ((1048576 : Int), ()))) (g_a5 (x0, ((1048576 : Int), ()))) fun y0 => (bif (decide (y0.1 < (0 : Int))) then (some (true, ())) else (cl (p_ae (x0, ())) (g_ae (x0, ())) fun y1 => (cl (p_az (y1.1, ())) (g_az (y1.1, ())) fun y2 => (bif (p_ae (x0, ())) then (cl (p_c5 (y1.1, ())) (g_c5 (y1.1, ())) fun y3 => (cl (p_ca (y3.1, (y2.1, ()))) (g_ca (y3.1, (y2.1, ()))) fun y4 => (bif (bif y4.1 then false else true) then (some (false, ())) else (bif (bif (y3.2.1 == y2.2.1) then false else true) then (some (false, ())) else (bif (p_ae (x0, ())) then (cl (p_cg (y1.1, (y1.1, ()))) (g_cg (y1.1, (y1.1, ()))) fun y5 => (bif (bif y5.1 then false else true) then (some (false, ())) else (cl (p_cl (y1.1, ((1 : Int), ()))) (g_cl (y1.1, ((1 : Int), ()))) fun y6 => (bif (decide (y6.1 < (0 : Int))) then (some (false, ())) else (bif (p_ca (y3.1, (y2.1, ()))) then (bif (bif y4.1 then false else true) then (some (false, ())) else (bif (bif (y3.2.1 == y2.2.1) then false else true) then (some (false, ())) else (cl (p_cn (y3.1, ((1 : Int), ()))) (g_cn (y3.1, ((1 : Int), ()))) fun y7 => (cl (p_cq ((y3.1.1, (y7.2.1.2.1, (y7.2.1.2.2.1, y3.1.2.2.2))), ((1 : Int), ()))) (g_cq ((y3.1.1, (y7.2.1.2.1, (y7.2.1.2.2.1, y3.1.2.2.2))), ((1 : Int), ()))) fun y8 => (bif (decide (y8.1 < (0 : Int))) then (some (false, ())) else (bif (bif (decide (y8.1 = y7.1)) then false else true) then (some (false, ())) else (bif (p_ae (x0, ())) then (bif (p_c5 (y1.1, ())) then (bif (p_ca (y3.1, (y2.1, ()))) then (bif (bif y4.1 then false else true) then (some (false, ())) else (bif (bif (y3.2.1 == y2.2.1) then false else true) then (some (false, ())) else (bif (p_cq ((y3.1.1, (y7.2.1.2.1, (y7.2.1.2.2.1, y3.1.2.2.2))), ((1 : Int), ()))) then (bif (decide (y8.1 < (0 : Int))) then (some (false, ())) else (bif (bif (decide (y8.1 = y7.1)) then false else true) then (some (false, ())) else (some (true, ())))) else none))) else none) else none) else none))))))) else none))))) else none))))) else none))))) := by kernel_rfl
theorem S_lFnExactCerOf (h_a5 : C_a5 p_a5 g_a5) (h_ae : C_ae p_ae g_ae) (h_az : C_az p_az g_az) (h_c5 : C_c5 p_c5 g_c5) (h_ca : C_ca p_ca g_ca) (h_cg : C_cg p_cg g_cg) (h_cl : C_cl p_cl g_cl) (h_cn : C_cn p_cn g_cn) (h_cq : C_cq p_cq g_cq) {pre : In_lFnExactCerOf -> Bool} {fn : In_lFnExactCerOf -> Out_lFnExactCerOf} (hev : ∀ x, pre x = true -> ∃ k, E_lFnExactCerOf g_a5 p_a5 g_ae p_ae g_az p_az g_c5 p_c5 g_ca p_ca g_cg p_cg g_cl p_cl g_cn p_cn g_cq p_cq k x = some (fn x)) : C_lFnExactCerOf pre fn := sound tysOk mixed (fn := Try.f12) rfl rfl rfl (.cons h_a5 (.cons h_ae (.cons h_az (.cons h_c5 (.cons h_ca (.cons h_cg (.cons h_cl (.cons h_cn (.cons h_cq .nil))))))))) _ hev
end
end Go.Proofs.Ytijolcgmciclhaa
