/- The functions of the seat, evaluated: equations, checked by the kernel. Made by a program. -/
import Derived.Test.YtmbmoenjhfkgkaaGreatFnExactBatTestVmC
import Derived.Test.YtmbmoenjhfkgkaaGreatProg
import Derived.KernelRfl
set_option linter.unusedVariables false
set_option maxRecDepth 100000
namespace Go.Proofs.YtmbmoenjhfkgkaaGreat
open Go.Vm
abbrev Dm (m : Vm.Mode) : Type := m.inSh.den
abbrev Dn (S : Sh) : Type := S.den
def mkS (a : List (Nat × AV)) (b : List (Nat × Ob)) : St := .mk (updL (fun _ => .unk) a) (updL (fun _ => .none) b)
def pt0 : List Bool := [false, true, false, true]
def pt1 : List Bool := [false, true, false, true, true]
def pt2 : List Bool := [false, true, false, true, true, true]
def pt3 : List Bool := [false, true, false, false, true, false, false, true, false, true]
def pt4 : List Bool := [false, true, true, true, false, false, true, false, false, true, false, true, true]
def pt5 : List Bool := [false, true, true, true, false, false, true, true, false, false, true, false, true, true]
abbrev I : Sh := (.int .i64)
abbrev U8 : Sh := (.int .u8)
abbrev L_str : Sh := (.sl 9 .str)
abbrev L_bool : Sh := (.sl 4 .bool)
abbrev L_u8 : Sh := (.sl 5 U8)
abbrev L_int : Sh := (.sl 3 I)
abbrev S_runtime_errorAddressString : Sh := (.pair .str (.int .u64))
abbrev L_Lint : Sh := (.sl 38 L_int)
abbrev S_DecDec : Sh := (.pair I I)
abbrev S_sl20Rd : Sh := (.pair L_u8 I)
abbrev L_DecDec : Sh := (.sl 55 S_DecDec)
abbrev L_lDecDec : Sh := (.sl 53 S_DecDec)
abbrev S_manner : Sh := (.pair .str (.pair L_int .str))
abbrev S_BatSig : Sh := (.pair I S_DecDec)
abbrev L_manner : Sh := (.sl 165 S_manner)
abbrev L_BatSig : Sh := (.sl 68 S_BatSig)
abbrev L_lBatSig : Sh := (.sl 176 S_BatSig)
abbrev S_runtime_boundsError : Sh := (.pair I (.pair I (.pair .bool U8)))
abbrev S_SpcTest : Sh := (.pair I (.pair S_DecDec (.pair S_DecDec I)))
abbrev L_SpcTest : Sh := (.sl 63 S_SpcTest)
abbrev L_lSpcTest : Sh := (.sl 169 S_SpcTest)
abbrev S_SpcSpec : Sh := (.pair L_SpcTest I)
abbrev S_lSpcSpec : Sh := (.pair L_lSpcTest I)
abbrev L_SpcSpec : Sh := (.sl 122 S_SpcSpec)
abbrev L_lSpcSpec : Sh := (.sl 182 S_lSpcSpec)
abbrev S_TstTest : Sh := (.pair S_SpcTest (.pair I (.pair S_DecDec (.pair I L_DecDec))))
abbrev S_lTstTest : Sh := (.pair S_SpcTest (.pair I (.pair S_DecDec (.pair I L_lDecDec))))
abbrev L_TstTest : Sh := (.sl 66 S_TstTest)
abbrev L_lTstTest : Sh := (.sl 172 S_lTstTest)
abbrev S_ReqReq : Sh := (.pair I (.pair I (.pair I (.pair I (.pair I (.pair S_DecDec L_SpcTest))))))
abbrev S_AudLine : Sh := (.pair S_ReqReq I)
abbrev L_AudLine : Sh := (.sl 242 S_AudLine)
abbrev S_BatBatch : Sh := (.pair I (.pair I (.pair L_TstTest (.pair I (.pair L_BatSig L_bool)))))
abbrev S_lBatBatch : Sh := (.pair I (.pair I (.pair L_lTstTest (.pair I (.pair L_lBatSig L_bool)))))
abbrev L_BatBatch : Sh := (.sl 31 S_BatBatch)
abbrev L_lBatBatch : Sh := (.sl 26 S_lBatBatch)
abbrev S_HouHouse : Sh := (.pair L_int (.pair L_SpcSpec L_BatBatch))
abbrev S_lHouHouse : Sh := (.pair L_int (.pair L_lSpcSpec L_lBatBatch))
abbrev S_lDecDec : Sh := S_DecDec
abbrev S_DayDay : Sh := S_BatSig
abbrev S_lBatSig : Sh := S_BatSig
abbrev S_lSpcTest : Sh := S_SpcTest
def tys : List (Nat × Sh × Nat) := [(2, I, 0), (3, I, 0), (4, .bool, 0), (5, U8, 0), (6, U8, 0), (7, S_runtime_boundsError, 4), (8, S_runtime_boundsError, 4), (9, .str, 0), (10, .str, 0), (11, .str, 0), (12, (.int .u64), 0), (13, S_runtime_errorAddressString, 2), (14, S_runtime_errorAddressString, 2), (21, (.int .i32), 0), (22, L_lTstTest, 0), (23, L_lBatSig, 0), (24, L_bool, 0), (25, S_lBatBatch, 6), (26, S_lBatBatch, 6), (28, L_TstTest, 0), (29, L_BatSig, 0), (30, S_BatBatch, 6), (31, S_BatBatch, 6), (38, L_int, 0), (39, L_lSpcSpec, 0), (40, L_lBatBatch, 0), (41, S_lHouHouse, 3), (42, S_lHouHouse, 3), (45, L_SpcSpec, 0), (46, L_BatBatch, 0), (47, S_HouHouse, 3), (48, S_HouHouse, 3), (52, S_DecDec, 2), (53, S_DecDec, 2), (55, S_DecDec, 2), (58, L_u8, 0), (62, S_SpcTest, 4), (63, S_SpcTest, 4), (64, L_DecDec, 0), (65, S_TstTest, 5), (66, S_TstTest, 5), (67, S_BatSig, 3), (68, S_BatSig, 3), (89, L_SpcTest, 0), (90, S_ReqReq, 7), (91, S_ReqReq, 7), (121, S_SpcSpec, 2), (122, S_SpcSpec, 2), (138, S_BatSig, 3), (139, S_BatSig, 3), (152, L_AudLine, 0), (164, S_manner, 3), (165, S_manner, 3), (168, S_SpcTest, 4), (169, S_SpcTest, 4), (170, L_lDecDec, 0), (171, S_lTstTest, 5), (172, S_lTstTest, 5), (176, S_BatSig, 3), (180, L_lSpcTest, 0), (181, S_lSpcSpec, 2), (182, S_lSpcSpec, 2), (191, S_sl20Rd, 2), (192, S_sl20Rd, 2), (219, L_manner, 0), (238, L_Lint, 0), (241, S_AudLine, 2), (242, S_AudLine, 2), (254, L_str, 0), (259, (.int .u64), 0), (260, (.int .u32), 0), (269, U8, 0), (270, U8, 0), (273, (.int .i32), 0), (274, (.int .i32), 0)]
theorem tysOk : tyChk Tryz.prog (ctx tys 0 (fun _ => []) (fun _ => ⟨[], [], []⟩) fun _ => []) tys = true := by kernel_rfl
theorem mixed : Tryz.prog.follows .mixedOrders = true := by kernel_rfl
/-! a0: lszDecDecS -/
abbrev M_a0 : List Vm.Mode := [.imm L_lDecDec, .imm I]
abbrev R_a0 : List (RK × Sh) := [(.imm, I)]
abbrev In_a0 : Type := (insSh M_a0).den
abbrev Out_a0 : Type := (outSh R_a0 M_a0).den
abbrev C_a0 (pre : In_a0 -> Bool) (fn : In_a0 -> Out_a0) : Prop := Sound Tryz.prog 213 ⟨M_a0, R_a0, pre, fn⟩
abbrev X_a0 : Ctx := ctx tys 12 (conOf []) (keepOf []) (fun _ => [])
noncomputable abbrev E_a0 (k : Nat) (x : In_a0) : Option Out_a0 := evFn X_a0 Tryz.f213 R_a0 M_a0 k x
theorem ev_a0 (k : Nat) (x0 : Dm (.imm L_lDecDec)) (x1 : Dm (.imm I)) : E_a0 k (x0, x1, ()) =
  (bif (decide ((w64 (x1 - (List.length x0 : Int))) < (0 : Int))) then (some ((-1 : Int), ())) else (some ((w64 (x1 - (List.length x0 : Int))), ()))) := by kernel_rfl
theorem S_a0  {pre : In_a0 -> Bool} {fn : In_a0 -> Out_a0} (hev : ∀ x, pre x = true -> ∃ k, E_a0 k x = some (fn x)) : C_a0 pre fn := sound tysOk mixed (fn := Tryz.f213) rfl rfl rfl ConsOk.nil _ hev
/-! a1: lszTstTest -/
abbrev M_a1 : List Vm.Mode := [.imm S_lTstTest, .imm I]
abbrev R_a1 : List (RK × Sh) := [(.imm, I)]
abbrev In_a1 : Type := (insSh M_a1).den
abbrev Out_a1 : Type := (outSh R_a1 M_a1).den
abbrev C_a1 (pre : In_a1 -> Bool) (fn : In_a1 -> Out_a1) : Prop := Sound Tryz.prog 144 ⟨M_a1, R_a1, pre, fn⟩
section
variable (g_a0 : In_a0 -> Out_a0) (p_a0 : In_a0 -> Bool)
abbrev X_a1 : Ctx := ctx tys 12 (conOf [(213, ⟨M_a0, R_a0, p_a0, g_a0⟩)]) (keepOf []) (fun _ => [])
noncomputable abbrev E_a1 (k : Nat) (x : In_a1) : Option Out_a1 := evFn (X_a1 g_a0 p_a0) Tryz.f144 R_a1 M_a1 k x
variable {g_a0 p_a0}
theorem ev_a1 (k : Nat) (x0 : Dm (.imm S_lTstTest)) (x1 : Dm (.imm I)) : E_a1 g_a0 p_a0 k (x0, x1, ()) =
  (bif (p_a0 (x0.2.2.2.2, (x1, ()))) then (bif (decide ((g_a0 (x0.2.2.2.2, (x1, ()))).1 < (0 : Int))) then (some ((-1 : Int), ())) else (some ((g_a0 (x0.2.2.2.2, (x1, ()))).1, ()))) else none) := by kernel_rfl
theorem S_a1 (h_a0 : C_a0 p_a0 g_a0) {pre : In_a1 -> Bool} {fn : In_a1 -> Out_a1} (hev : ∀ x, pre x = true -> ∃ k, E_a1 g_a0 p_a0 k x = some (fn x)) : C_a1 pre fn := sound tysOk mixed (fn := Tryz.f144) rfl rfl rfl (.cons h_a0 .nil) _ hev
end
/-! a2: lszTstTestS -/
abbrev M_a2 : List Vm.Mode := [.imm L_lTstTest, .imm I]
abbrev R_a2 : List (RK × Sh) := [(.imm, I)]
abbrev In_a2 : Type := (insSh M_a2).den
abbrev Out_a2 : Type := (outSh R_a2 M_a2).den
abbrev C_a2 (pre : In_a2 -> Bool) (fn : In_a2 -> Out_a2) : Prop := Sound Tryz.prog 62 ⟨M_a2, R_a2, pre, fn⟩
section
variable (g_a1 : In_a1 -> Out_a1) (p_a1 : In_a1 -> Bool)
abbrev X_a2 : Ctx := ctx tys 27 (conOf [(144, ⟨M_a1, R_a1, p_a1, g_a1⟩)]) (keepOf [(pt2, (⟨[(0, .asis), (1, .asis), (5, .asis)], [], []⟩ : Keep))]) (fun _ => [])
noncomputable abbrev E_a2 (k : Nat) (x : In_a2) : Option Out_a2 := evFn (X_a2 g_a1 p_a1) Tryz.f62 R_a2 M_a2 k x
def h0_a2 (x0 : Dm (.imm L_lTstTest)) (x1 : Dm (.imm I)) (h0 : Dn I) (h1 : Dn I) : St := mkS [(0, (AV.val L_lTstTest x0)), (1, (AV.val I h0)), (5, (AV.val I h1))] []
noncomputable def r_a2 (x : In_a2) (k : Nat) (p : List Bool) (s : St) : Option Out_a2 := rounds (X_a2 g_a1 p_a1) Tryz.f62 R_a2 M_a2 x k p s
variable {g_a1 p_a1}
theorem ev_a2 (k : Nat) (x0 : Dm (.imm L_lTstTest)) (x1 : Dm (.imm I)) : E_a2 g_a1 p_a1 k (x0, x1, ()) =
  (bif (decide ((w64 (x1 - (List.length x0 : Int))) < (0 : Int))) then (some ((-1 : Int), ())) else (r_a2 g_a1 p_a1 (x0, x1, ()) k pt2 (h0_a2 x0 x1 (w64 (x1 - (List.length x0 : Int))) (0 : Int)))) := by kernel_rfl
theorem rd0_a2 (k : Nat) (x0 : Dm (.imm L_lTstTest)) (x1 : Dm (.imm I)) (h0 : Dn I) (h1 : Dn I) : r_a2 g_a1 p_a1 (x0, x1, ()) (k + 1) pt2 (h0_a2 x0 x1 h0 h1) =
  (bif (decide (h1 < (List.length x0 : Int))) then (bif (bif (decide ((0 : Int) <= h1)) then (decide (h1 < (List.length x0 : Int))) else false) then (cl (p_a1 ((rdL (e := S_lTstTest) x0 h1), (h0, ()))) (g_a1 ((rdL (e := S_lTstTest) x0 h1), (h0, ()))) fun y0 => (bif (decide (y0.1 < (0 : Int))) then (some ((-1 : Int), ())) else (r_a2 g_a1 p_a1 (x0, x1, ()) k pt2 (h0_a2 x0 x1 (y0.1) (w64 (h1 + (1 : Int))))))) else none) else (some (h0, ()))) := by kernel_rfl
theorem S_a2 (h_a1 : C_a1 p_a1 g_a1) {pre : In_a2 -> Bool} {fn : In_a2 -> Out_a2} (hev : ∀ x, pre x = true -> ∃ k, E_a2 g_a1 p_a1 k x = some (fn x)) : C_a2 pre fn := sound tysOk mixed (fn := Tryz.f62) rfl rfl rfl (.cons h_a1 .nil) _ hev
end
/-! a3: lszBatSigS -/
abbrev M_a3 : List Vm.Mode := [.imm L_lBatSig, .imm I]
abbrev R_a3 : List (RK × Sh) := [(.imm, I)]
abbrev In_a3 : Type := (insSh M_a3).den
abbrev Out_a3 : Type := (outSh R_a3 M_a3).den
abbrev C_a3 (pre : In_a3 -> Bool) (fn : In_a3 -> Out_a3) : Prop := Sound Tryz.prog 63 ⟨M_a3, R_a3, pre, fn⟩
abbrev X_a3 : Ctx := ctx tys 12 (conOf []) (keepOf []) (fun _ => [])
noncomputable abbrev E_a3 (k : Nat) (x : In_a3) : Option Out_a3 := evFn X_a3 Tryz.f63 R_a3 M_a3 k x
theorem ev_a3 (k : Nat) (x0 : Dm (.imm L_lBatSig)) (x1 : Dm (.imm I)) : E_a3 k (x0, x1, ()) =
  (bif (decide ((w64 (x1 - (List.length x0 : Int))) < (0 : Int))) then (some ((-1 : Int), ())) else (some ((w64 (x1 - (List.length x0 : Int))), ()))) := by kernel_rfl
theorem S_a3  {pre : In_a3 -> Bool} {fn : In_a3 -> Out_a3} (hev : ∀ x, pre x = true -> ∃ k, E_a3 k x = some (fn x)) : C_a3 pre fn := sound tysOk mixed (fn := Tryz.f63) rfl rfl rfl ConsOk.nil _ hev
/-! a4: lszBoolS -/
abbrev M_a4 : List Vm.Mode := [.imm L_bool, .imm I]
abbrev R_a4 : List (RK × Sh) := [(.imm, I)]
abbrev In_a4 : Type := (insSh M_a4).den
abbrev Out_a4 : Type := (outSh R_a4 M_a4).den
abbrev C_a4 (pre : In_a4 -> Bool) (fn : In_a4 -> Out_a4) : Prop := Sound Tryz.prog 64 ⟨M_a4, R_a4, pre, fn⟩
abbrev X_a4 : Ctx := ctx tys 12 (conOf []) (keepOf []) (fun _ => [])
noncomputable abbrev E_a4 (k : Nat) (x : In_a4) : Option Out_a4 := evFn X_a4 Tryz.f64 R_a4 M_a4 k x
theorem ev_a4 (k : Nat) (x0 : Dm (.imm L_bool)) (x1 : Dm (.imm I)) : E_a4 k (x0, x1, ()) =
  (bif (decide ((w64 (x1 - (List.length x0 : Int))) < (0 : Int))) then (some ((-1 : Int), ())) else (some ((w64 (x1 - (List.length x0 : Int))), ()))) := by kernel_rfl
theorem S_a4  {pre : In_a4 -> Bool} {fn : In_a4 -> Out_a4} (hev : ∀ x, pre x = true -> ∃ k, E_a4 k x = some (fn x)) : C_a4 pre fn := sound tysOk mixed (fn := Tryz.f64) rfl rfl rfl ConsOk.nil _ hev
/-! a5: lszBatBatch -/
abbrev M_a5 : List Vm.Mode := [.imm S_lBatBatch, .imm I]
abbrev R_a5 : List (RK × Sh) := [(.imm, I)]
abbrev In_a5 : Type := (insSh M_a5).den
abbrev Out_a5 : Type := (outSh R_a5 M_a5).den
abbrev C_a5 (pre : In_a5 -> Bool) (fn : In_a5 -> Out_a5) : Prop := Sound Tryz.prog 15 ⟨M_a5, R_a5, pre, fn⟩
section
variable (g_a2 : In_a2 -> Out_a2) (p_a2 : In_a2 -> Bool) (g_a3 : In_a3 -> Out_a3) (p_a3 : In_a3 -> Bool) (g_a4 : In_a4 -> Out_a4) (p_a4 : In_a4 -> Bool)
abbrev X_a5 : Ctx := ctx tys 24 (conOf [(62, ⟨M_a2, R_a2, p_a2, g_a2⟩), (63, ⟨M_a3, R_a3, p_a3, g_a3⟩), (64, ⟨M_a4, R_a4, p_a4, g_a4⟩)]) (keepOf []) (fun _ => [])
noncomputable abbrev E_a5 (k : Nat) (x : In_a5) : Option Out_a5 := evFn (X_a5 g_a2 p_a2 g_a3 p_a3 g_a4 p_a4) Tryz.f15 R_a5 M_a5 k x
variable {g_a2 p_a2 g_a3 p_a3 g_a4 p_a4}
theorem ev_a5 (k : Nat) (x0 : Dm (.imm S_lBatBatch)) (x1 : Dm (.imm I)) : E_a5 g_a2 p_a2 g_a3 p_a3 g_a4 p_a4 k (x0, x1, ()) =
  (cl (p_a2 (x0.2.2.1, (x1, ()))) (g_a2 (x0.2.2.1, (x1, ()))) fun y0 => (bif (decide (y0.1 < (0 : Int))) then (some ((-1 : Int), ())) else (cl (p_a3 (x0.2.2.2.2.1, (y0.1, ()))) (g_a3 (x0.2.2.2.2.1, (y0.1, ()))) fun y1 => (bif (decide (y1.1 < (0 : Int))) then (some ((-1 : Int), ())) else (cl (p_a4 (x0.2.2.2.2.2, (y1.1, ()))) (g_a4 (x0.2.2.2.2.2, (y1.1, ()))) fun y2 => (bif (decide (y2.1 < (0 : Int))) then (some ((-1 : Int), ())) else (some (y2.1, ())))))))) := by kernel_rfl
theorem S_a5 (h_a2 : C_a2 p_a2 g_a2) (h_a3 : C_a3 p_a3 g_a3) (h_a4 : C_a4 p_a4 g_a4) {pre : In_a5 -> Bool} {fn : In_a5 -> Out_a5} (hev : ∀ x, pre x = true -> ∃ k, E_a5 g_a2 p_a2 g_a3 p_a3 g_a4 p_a4 k x = some (fn x)) : C_a5 pre fn := sound tysOk mixed (fn := Tryz.f15) rfl rfl rfl (.cons h_a2 (.cons h_a3 (.cons h_a4 .nil))) _ hev
end
/-! a6: ltoDecDec -/
abbrev M_a6 : List Vm.Mode := [.imm S_DecDec]
abbrev R_a6 : List (RK × Sh) := [(.imm, S_DecDec)]
abbrev In_a6 : Type := (insSh M_a6).den
abbrev Out_a6 : Type := (outSh R_a6 M_a6).den
abbrev C_a6 (pre : In_a6 -> Bool) (fn : In_a6 -> Out_a6) : Prop := Sound Tryz.prog 28 ⟨M_a6, R_a6, pre, fn⟩
abbrev X_a6 : Ctx := ctx tys 11 (conOf []) (keepOf []) (fun _ => [])
noncomputable abbrev E_a6 (k : Nat) (x : In_a6) : Option Out_a6 := evFn X_a6 Tryz.f28 R_a6 M_a6 k x
theorem ev_a6 (k : Nat) (x0 : Dm (.imm S_DecDec)) : E_a6 k (x0, ()) =
  (some (x0, ())) := by kernel_rfl
theorem S_a6  {pre : In_a6 -> Bool} {fn : In_a6 -> Out_a6} (hev : ∀ x, pre x = true -> ∃ k, E_a6 k x = some (fn x)) : C_a6 pre fn := sound tysOk mixed (fn := Tryz.f28) rfl rfl rfl ConsOk.nil _ hev
/-! a7: ltoSpcTest -/
abbrev M_a7 : List Vm.Mode := [.imm S_SpcTest]
abbrev R_a7 : List (RK × Sh) := [(.imm, S_SpcTest)]
abbrev In_a7 : Type := (insSh M_a7).den
abbrev Out_a7 : Type := (outSh R_a7 M_a7).den
abbrev C_a7 (pre : In_a7 -> Bool) (fn : In_a7 -> Out_a7) : Prop := Sound Tryz.prog 214 ⟨M_a7, R_a7, pre, fn⟩
section
variable (g_a6 : In_a6 -> Out_a6)
abbrev X_a7 : Ctx := ctx tys 19 (conOf [(28, ⟨M_a6, R_a6, fun _ => true, g_a6⟩)]) (keepOf []) (fun _ => [])
noncomputable abbrev E_a7 (k : Nat) (x : In_a7) : Option Out_a7 := evFn (X_a7 g_a6) Tryz.f214 R_a7 M_a7 k x
variable {g_a6}
theorem ev_a7 (k : Nat) (x0 : Dm (.imm S_SpcTest)) : E_a7 g_a6 k (x0, ()) =
  (some ((x0.1, ((g_a6 (x0.2.1, ())).1, ((g_a6 (x0.2.2.1, ())).1, x0.2.2.2))), ())) := by kernel_rfl
theorem S_a7 (h_a6 : C_a6 (fun _ => true) g_a6) {pre : In_a7 -> Bool} {fn : In_a7 -> Out_a7} (hev : ∀ x, pre x = true -> ∃ k, E_a7 g_a6 k x = some (fn x)) : C_a7 pre fn := sound tysOk mixed (fn := Tryz.f214) rfl rfl rfl (.cons h_a6 .nil) _ hev
end
/-! a8: ltoDecDecS -/
abbrev M_a8 : List Vm.Mode := [.imm L_lDecDec]
abbrev R_a8 : List (RK × Sh) := [(.own, L_DecDec)]
abbrev In_a8 : Type := (insSh M_a8).den
abbrev Out_a8 : Type := (outSh R_a8 M_a8).den
abbrev C_a8 (pre : In_a8 -> Bool) (fn : In_a8 -> Out_a8) : Prop := Sound Tryz.prog 215 ⟨M_a8, R_a8, pre, fn⟩
section
variable (g_a6 : In_a6 -> Out_a6)
abbrev X_a8 : Ctx := ctx tys 23 (conOf [(28, ⟨M_a6, R_a6, fun _ => true, g_a6⟩)]) (keepOf [(pt1, (⟨[(0, .asis), (3, .own), (4, .asis)], [], []⟩ : Keep))]) (fun _ => [])
noncomputable abbrev E_a8 (k : Nat) (x : In_a8) : Option Out_a8 := evFn (X_a8 g_a6) Tryz.f215 R_a8 M_a8 k x
def h0_a8 (x0 : Dm (.imm L_lDecDec)) (h0 : Dn I) (h1 : (List (Dn S_DecDec))) : St := mkS [(0, (AV.val L_lDecDec x0)), (3, (AV.sref 2503 none [])), (4, (AV.val I h0))] [(2503, (Ob.arr 55 S_DecDec h1))]
noncomputable def r_a8 (x : In_a8) (k : Nat) (p : List Bool) (s : St) : Option Out_a8 := rounds (X_a8 g_a6) Tryz.f215 R_a8 M_a8 x k p s
variable {g_a6}
theorem ev_a8 (k : Nat) (x0 : Dm (.imm L_lDecDec)) : E_a8 g_a6 k (x0, ()) =
  (bif (bif (bif (decide ((0 : Int) <= (List.length x0 : Int))) then (decide ((List.length x0 : Int) <= (BIG : Int))) else false) then (decide ((List.length x0 : Int) = (List.length x0 : Int))) else false) then (r_a8 g_a6 (x0, ()) k pt1 (h0_a8 x0 (0 : Int) (List.replicate (Int.toNat (List.length x0 : Int)) ((0 : Int), (0 : Int))))) else none) := by kernel_rfl
theorem rd0_a8 (k : Nat) (x0 : Dm (.imm L_lDecDec)) (h0 : Dn I) (h1 : (List (Dn S_DecDec))) : r_a8 g_a6 (x0, ()) (k + 1) pt1 (h0_a8 x0 h0 h1) =
  (bif (decide (h0 < (List.length x0 : Int))) then (bif (bif (decide ((0 : Int) <= h0)) then (decide (h0 < (List.length x0 : Int))) else false) then (bif (bif (decide ((0 : Int) <= h0)) then (decide (h0 < (List.length h1 : Int))) else false) then (r_a8 g_a6 (x0, ()) k pt1 (h0_a8 x0 (w64 (h0 + (1 : Int))) (List.set h1 (Int.toNat h0) (g_a6 ((rdL (e := S_DecDec) x0 h0), ())).1))) else none) else none) else (some (h1, ()))) := by kernel_rfl
theorem S_a8 (h_a6 : C_a6 (fun _ => true) g_a6) {pre : In_a8 -> Bool} {fn : In_a8 -> Out_a8} (hev : ∀ x, pre x = true -> ∃ k, E_a8 g_a6 k x = some (fn x)) : C_a8 pre fn := sound tysOk mixed (fn := Tryz.f215) rfl rfl rfl (.cons h_a6 .nil) _ hev
end
/-! a9: ltoTstTest -/
abbrev M_a9 : List Vm.Mode := [.imm S_lTstTest]
abbrev R_a9 : List (RK × Sh) := [(.own, S_TstTest)]
abbrev In_a9 : Type := (insSh M_a9).den
abbrev Out_a9 : Type := (outSh R_a9 M_a9).den
abbrev C_a9 (pre : In_a9 -> Bool) (fn : In_a9 -> Out_a9) : Prop := Sound Tryz.prog 146 ⟨M_a9, R_a9, pre, fn⟩
section
variable (g_a7 : In_a7 -> Out_a7) (g_a6 : In_a6 -> Out_a6) (g_a8 : In_a8 -> Out_a8) (p_a8 : In_a8 -> Bool)
abbrev X_a9 : Ctx := ctx tys 23 (conOf [(214, ⟨M_a7, R_a7, fun _ => true, g_a7⟩), (28, ⟨M_a6, R_a6, fun _ => true, g_a6⟩), (215, ⟨M_a8, R_a8, p_a8, g_a8⟩)]) (keepOf []) (fun _ => [])
noncomputable abbrev E_a9 (k : Nat) (x : In_a9) : Option Out_a9 := evFn (X_a9 g_a7 g_a6 g_a8 p_a8) Tryz.f146 R_a9 M_a9 k x
variable {g_a7 g_a6 g_a8 p_a8}
theorem ev_a9 (k : Nat) (x0 : Dm (.imm S_lTstTest)) : E_a9 g_a7 g_a6 g_a8 p_a8 k (x0, ()) =
  (bif (p_a8 (x0.2.2.2.2, ())) then (some (((g_a7 (x0.1, ())).1, (x0.2.1, ((g_a6 (x0.2.2.1, ())).1, (x0.2.2.2.1, (g_a8 (x0.2.2.2.2, ())).1)))), ())) else none) := by kernel_rfl
theorem S_a9 (h_a7 : C_a7 (fun _ => true) g_a7) (h_a6 : C_a6 (fun _ => true) g_a6) (h_a8 : C_a8 p_a8 g_a8) {pre : In_a9 -> Bool} {fn : In_a9 -> Out_a9} (hev : ∀ x, pre x = true -> ∃ k, E_a9 g_a7 g_a6 g_a8 p_a8 k x = some (fn x)) : C_a9 pre fn := sound tysOk mixed (fn := Tryz.f146) rfl rfl rfl (.cons h_a7 (.cons h_a6 (.cons h_a8 .nil))) _ hev
end
/-! aa: ltoTstTestS -/
abbrev M_aa : List Vm.Mode := [.imm L_lTstTest]
abbrev R_aa : List (RK × Sh) := [(.own, L_TstTest)]
abbrev In_aa : Type := (insSh M_aa).den
abbrev Out_aa : Type := (outSh R_aa M_aa).den
abbrev C_aa (pre : In_aa -> Bool) (fn : In_aa -> Out_aa) : Prop := Sound Tryz.prog 67 ⟨M_aa, R_aa, pre, fn⟩
section
variable (g_a9 : In_a9 -> Out_a9) (p_a9 : In_a9 -> Bool)
abbrev X_aa : Ctx := ctx tys 23 (conOf [(146, ⟨M_a9, R_a9, p_a9, g_a9⟩)]) (keepOf [(pt1, (⟨[(0, .asis), (3, .own), (4, .asis)], [], []⟩ : Keep))]) (fun _ => [])
noncomputable abbrev E_aa (k : Nat) (x : In_aa) : Option Out_aa := evFn (X_aa g_a9 p_a9) Tryz.f67 R_aa M_aa k x
def h0_aa (x0 : Dm (.imm L_lTstTest)) (h0 : Dn I) (h1 : (List (Dn S_TstTest))) : St := mkS [(0, (AV.val L_lTstTest x0)), (3, (AV.sref 2503 none [])), (4, (AV.val I h0))] [(2503, (Ob.arr 66 S_TstTest h1))]
noncomputable def r_aa (x : In_aa) (k : Nat) (p : List Bool) (s : St) : Option Out_aa := rounds (X_aa g_a9 p_a9) Tryz.f67 R_aa M_aa x k p s
variable {g_a9 p_a9}
theorem ev_aa (k : Nat) (x0 : Dm (.imm L_lTstTest)) : E_aa g_a9 p_a9 k (x0, ()) =
  (bif (bif (bif (decide ((0 : Int) <= (List.length x0 : Int))) then (decide ((List.length x0 : Int) <= (BIG : Int))) else false) then (decide ((List.length x0 : Int) = (List.length x0 : Int))) else false) then (r_aa g_a9 p_a9 (x0, ()) k pt1 (h0_aa x0 (0 : Int) (List.replicate (Int.toNat (List.length x0 : Int)) (((0 : Int), (((0 : Int), (0 : Int)), (((0 : Int), (0 : Int)), (0 : Int)))), ((0 : Int), (((0 : Int), (0 : Int)), ((0 : Int), []))))))) else none) := by kernel_rfl
theorem rd0_aa (k : Nat) (x0 : Dm (.imm L_lTstTest)) (h0 : Dn I) (h1 : (List (Dn S_TstTest))) : r_aa g_a9 p_a9 (x0, ()) (k + 1) pt1 (h0_aa x0 h0 h1) =
  (bif (decide (h0 < (List.length x0 : Int))) then (bif (bif (decide ((0 : Int) <= h0)) then (decide (h0 < (List.length x0 : Int))) else false) then (cl (p_a9 ((rdL (e := S_lTstTest) x0 h0), ())) (g_a9 ((rdL (e := S_lTstTest) x0 h0), ())) fun y0 => (bif (bif (decide ((0 : Int) <= h0)) then (decide (h0 < (List.length h1 : Int))) else false) then (r_aa g_a9 p_a9 (x0, ()) k pt1 (h0_aa x0 (w64 (h0 + (1 : Int))) (List.set h1 (Int.toNat h0) y0.1))) else none)) else none) else (some (h1, ()))) := by kernel_rfl
theorem S_aa (h_a9 : C_a9 p_a9 g_a9) {pre : In_aa -> Bool} {fn : In_aa -> Out_aa} (hev : ∀ x, pre x = true -> ∃ k, E_aa g_a9 p_a9 k x = some (fn x)) : C_aa pre fn := sound tysOk mixed (fn := Tryz.f67) rfl rfl rfl (.cons h_a9 .nil) _ hev
end
/-! ab: ltoBatSig -/
abbrev M_ab : List Vm.Mode := [.imm S_BatSig]
abbrev R_ab : List (RK × Sh) := [(.imm, S_BatSig)]
abbrev In_ab : Type := (insSh M_ab).den
abbrev Out_ab : Type := (outSh R_ab M_ab).den
abbrev C_ab (pre : In_ab -> Bool) (fn : In_ab -> Out_ab) : Prop := Sound Tryz.prog 147 ⟨M_ab, R_ab, pre, fn⟩
abbrev X_ab : Ctx := ctx tys 14 (conOf []) (keepOf []) (fun _ => [])
noncomputable abbrev E_ab (k : Nat) (x : In_ab) : Option Out_ab := evFn X_ab Tryz.f147 R_ab M_ab k x
theorem ev_ab (k : Nat) (x0 : Dm (.imm S_BatSig)) : E_ab k (x0, ()) =
  (some (x0, ())) := by kernel_rfl
theorem S_ab  {pre : In_ab -> Bool} {fn : In_ab -> Out_ab} (hev : ∀ x, pre x = true -> ∃ k, E_ab k x = some (fn x)) : C_ab pre fn := sound tysOk mixed (fn := Tryz.f147) rfl rfl rfl ConsOk.nil _ hev
/-! ac: ltoBatSigS -/
abbrev M_ac : List Vm.Mode := [.imm L_lBatSig]
abbrev R_ac : List (RK × Sh) := [(.own, L_BatSig)]
abbrev In_ac : Type := (insSh M_ac).den
abbrev Out_ac : Type := (outSh R_ac M_ac).den
abbrev C_ac (pre : In_ac -> Bool) (fn : In_ac -> Out_ac) : Prop := Sound Tryz.prog 68 ⟨M_ac, R_ac, pre, fn⟩
section
variable (g_ab : In_ab -> Out_ab) (p_ab : In_ab -> Bool)
abbrev X_ac : Ctx := ctx tys 23 (conOf [(147, ⟨M_ab, R_ab, p_ab, g_ab⟩)]) (keepOf [(pt1, (⟨[(0, .asis), (3, .own), (4, .asis)], [], []⟩ : Keep))]) (fun _ => [])
noncomputable abbrev E_ac (k : Nat) (x : In_ac) : Option Out_ac := evFn (X_ac g_ab p_ab) Tryz.f68 R_ac M_ac k x
def h0_ac (x0 : Dm (.imm L_lBatSig)) (h0 : Dn I) (h1 : (List (Dn S_BatSig))) : St := mkS [(0, (AV.val L_lBatSig x0)), (3, (AV.sref 2503 none [])), (4, (AV.val I h0))] [(2503, (Ob.arr 68 S_BatSig h1))]
noncomputable def r_ac (x : In_ac) (k : Nat) (p : List Bool) (s : St) : Option Out_ac := rounds (X_ac g_ab p_ab) Tryz.f68 R_ac M_ac x k p s
variable {g_ab p_ab}
theorem ev_ac (k : Nat) (x0 : Dm (.imm L_lBatSig)) : E_ac g_ab p_ab k (x0, ()) =
  (bif (bif (bif (decide ((0 : Int) <= (List.length x0 : Int))) then (decide ((List.length x0 : Int) <= (BIG : Int))) else false) then (decide ((List.length x0 : Int) = (List.length x0 : Int))) else false) then (r_ac g_ab p_ab (x0, ()) k pt1 (h0_ac x0 (0 : Int) (List.replicate (Int.toNat (List.length x0 : Int)) ((0 : Int), ((0 : Int), (0 : Int)))))) else none) := by kernel_rfl
theorem rd0_ac (k : Nat) (x0 : Dm (.imm L_lBatSig)) (h0 : Dn I) (h1 : (List (Dn S_BatSig))) : r_ac g_ab p_ab (x0, ()) (k + 1) pt1 (h0_ac x0 h0 h1) =
  (bif (decide (h0 < (List.length x0 : Int))) then (bif (bif (decide ((0 : Int) <= h0)) then (decide (h0 < (List.length x0 : Int))) else false) then (cl (p_ab ((rdL (e := S_BatSig) x0 h0), ())) (g_ab ((rdL (e := S_BatSig) x0 h0), ())) fun y0 => (bif (bif (decide ((0 : Int) <= h0)) then (decide (h0 < (List.length h1 : Int))) else false) then (r_ac g_ab p_ab (x0, ()) k pt1 (h0_ac x0 (w64 (h0 + (1 : Int))) (List.set h1 (Int.toNat h0) y0.1))) else none)) else none) else (some (h1, ()))) := by kernel_rfl
theorem S_ac (h_ab : C_ab p_ab g_ab) {pre : In_ac -> Bool} {fn : In_ac -> Out_ac} (hev : ∀ x, pre x = true -> ∃ k, E_ac g_ab p_ab k x = some (fn x)) : C_ac pre fn := sound tysOk mixed (fn := Tryz.f68) rfl rfl rfl (.cons h_ab .nil) _ hev
end
/-! ad: ltoBoolS -/
abbrev M_ad : List Vm.Mode := [.imm L_bool]
abbrev R_ad : List (RK × Sh) := [(.own, L_bool)]
abbrev In_ad : Type := (insSh M_ad).den
abbrev Out_ad : Type := (outSh R_ad M_ad).den
abbrev C_ad (pre : In_ad -> Bool) (fn : In_ad -> Out_ad) : Prop := Sound Tryz.prog 69 ⟨M_ad, R_ad, pre, fn⟩
abbrev X_ad : Ctx := ctx tys 22 (conOf []) (keepOf [(pt1, (⟨[(0, .asis), (3, .own), (4, .asis)], [], []⟩ : Keep))]) (fun _ => [])
noncomputable abbrev E_ad (k : Nat) (x : In_ad) : Option Out_ad := evFn X_ad Tryz.f69 R_ad M_ad k x
def h0_ad (x0 : Dm (.imm L_bool)) (h0 : Dn I) (h1 : (List (Dn Sh.bool))) : St := mkS [(0, (AV.val L_bool x0)), (3, (AV.sref 2503 none [])), (4, (AV.val I h0))] [(2503, (Ob.arr 4 Sh.bool h1))]
noncomputable def r_ad (x : In_ad) (k : Nat) (p : List Bool) (s : St) : Option Out_ad := rounds X_ad Tryz.f69 R_ad M_ad x k p s
theorem ev_ad (k : Nat) (x0 : Dm (.imm L_bool)) : E_ad k (x0, ()) =
  (bif (bif (bif (decide ((0 : Int) <= (List.length x0 : Int))) then (decide ((List.length x0 : Int) <= (BIG : Int))) else false) then (decide ((List.length x0 : Int) = (List.length x0 : Int))) else false) then (r_ad  (x0, ()) k pt1 (h0_ad x0 (0 : Int) (List.replicate (Int.toNat (List.length x0 : Int)) false))) else none) := by kernel_rfl
theorem rd0_ad (k : Nat) (x0 : Dm (.imm L_bool)) (h0 : Dn I) (h1 : (List (Dn Sh.bool))) : r_ad  (x0, ()) (k + 1) pt1 (h0_ad x0 h0 h1) =
  (bif (decide (h0 < (List.length x0 : Int))) then (bif (bif (decide ((0 : Int) <= h0)) then (decide (h0 < (List.length x0 : Int))) else false) then (bif (bif (decide ((0 : Int) <= h0)) then (decide (h0 < (List.length h1 : Int))) else false) then (r_ad  (x0, ()) k pt1 (h0_ad x0 (w64 (h0 + (1 : Int))) (List.set h1 (Int.toNat h0) (rdL (e := Sh.bool) x0 h0)))) else none) else none) else (some (h1, ()))) := by kernel_rfl
theorem S_ad  {pre : In_ad -> Bool} {fn : In_ad -> Out_ad} (hev : ∀ x, pre x = true -> ∃ k, E_ad k x = some (fn x)) : C_ad pre fn := sound tysOk mixed (fn := Tryz.f69) rfl rfl rfl ConsOk.nil _ hev
/-! ae: ltoBatBatch -/
abbrev M_ae : List Vm.Mode := [.imm S_lBatBatch]
abbrev R_ae : List (RK × Sh) := [(.own, S_BatBatch)]
abbrev In_ae : Type := (insSh M_ae).den
abbrev Out_ae : Type := (outSh R_ae M_ae).den
abbrev C_ae (pre : In_ae -> Bool) (fn : In_ae -> Out_ae) : Prop := Sound Tryz.prog 17 ⟨M_ae, R_ae, pre, fn⟩
section
variable (g_aa : In_aa -> Out_aa) (p_aa : In_aa -> Bool) (g_ac : In_ac -> Out_ac) (p_ac : In_ac -> Bool) (g_ad : In_ad -> Out_ad) (p_ad : In_ad -> Bool)
abbrev X_ae : Ctx := ctx tys 26 (conOf [(67, ⟨M_aa, R_aa, p_aa, g_aa⟩), (68, ⟨M_ac, R_ac, p_ac, g_ac⟩), (69, ⟨M_ad, R_ad, p_ad, g_ad⟩)]) (keepOf []) (fun _ => [])
noncomputable abbrev E_ae (k : Nat) (x : In_ae) : Option Out_ae := evFn (X_ae g_aa p_aa g_ac p_ac g_ad p_ad) Tryz.f17 R_ae M_ae k x
variable {g_aa p_aa g_ac p_ac g_ad p_ad}
theorem ev_ae (k : Nat) (x0 : Dm (.imm S_lBatBatch)) : E_ae g_aa p_aa g_ac p_ac g_ad p_ad k (x0, ()) =
  (cl (p_aa (x0.2.2.1, ())) (g_aa (x0.2.2.1, ())) fun y0 => (cl (p_ac (x0.2.2.2.2.1, ())) (g_ac (x0.2.2.2.2.1, ())) fun y1 => (cl (p_ad (x0.2.2.2.2.2, ())) (g_ad (x0.2.2.2.2.2, ())) fun y2 => (some ((x0.1, (x0.2.1, (y0.1, (x0.2.2.2.1, (y1.1, y2.1))))), ()))))) := by kernel_rfl
theorem S_ae (h_aa : C_aa p_aa g_aa) (h_ac : C_ac p_ac g_ac) (h_ad : C_ad p_ad g_ad) {pre : In_ae -> Bool} {fn : In_ae -> Out_ae} (hev : ∀ x, pre x = true -> ∃ k, E_ae g_aa p_aa g_ac p_ac g_ad p_ad k x = some (fn x)) : C_ae pre fn := sound tysOk mixed (fn := Tryz.f17) rfl rfl rfl (.cons h_aa (.cons h_ac (.cons h_ad .nil))) _ hev
end
/-! af: sl5Copy -/
abbrev M_af : List Vm.Mode := [.imm S_TstTest]
abbrev R_af : List (RK × Sh) := [(.own, S_TstTest)]
abbrev In_af : Type := (insSh M_af).den
abbrev Out_af : Type := (outSh R_af M_af).den
abbrev C_af (pre : In_af -> Bool) (fn : In_af -> Out_af) : Prop := Sound Tryz.prog 145 ⟨M_af, R_af, pre, fn⟩
abbrev X_af : Ctx := ctx tys 9 (conOf []) (keepOf []) (fun _ => [])
noncomputable abbrev E_af (k : Nat) (x : In_af) : Option Out_af := evFn X_af Tryz.f145 R_af M_af k x
theorem ev_af (k : Nat) (x0 : Dm (.imm S_TstTest)) : E_af k (x0, ()) =
  (bif (fitL [] x0.2.2.2.2) then (some ((x0.1, (x0.2.1, (x0.2.2.1, (x0.2.2.2.1, (List.append [] x0.2.2.2.2))))), ())) else none) := by kernel_rfl
theorem S_af  {pre : In_af -> Bool} {fn : In_af -> Out_af} (hev : ∀ x, pre x = true -> ∃ k, E_af k x = some (fn x)) : C_af pre fn := sound tysOk mixed (fn := Tryz.f145) rfl rfl rfl ConsOk.nil _ hev
/-! ag: sl6Copy -/
abbrev M_ag : List Vm.Mode := [.imm S_BatBatch]
abbrev R_ag : List (RK × Sh) := [(.own, S_BatBatch)]
abbrev In_ag : Type := (insSh M_ag).den
abbrev Out_ag : Type := (outSh R_ag M_ag).den
abbrev C_ag (pre : In_ag -> Bool) (fn : In_ag -> Out_ag) : Prop := Sound Tryz.prog 65 ⟨M_ag, R_ag, pre, fn⟩
section
variable (g_af : In_af -> Out_af) (p_af : In_af -> Bool)
abbrev X_ag : Ctx := ctx tys 39 (conOf [(145, ⟨M_af, R_af, p_af, g_af⟩)]) (keepOf [(pt1, (⟨[(1, .asis), (2, .asis), (3, .asis), (4, .asis)], [(1, .asis), (2, (.pair .asis (.pair .asis (.pair .own (.pair .asis (.pair .own .own)))))), (3, (.pair .asis (.pair .asis (.pair .own (.pair .asis (.pair .own .own))))))], []⟩ : Keep))]) (fun _ => [])
noncomputable abbrev E_ag (k : Nat) (x : In_ag) : Option Out_ag := evFn (X_ag g_af p_af) Tryz.f65 R_ag M_ag k x
def h0_ag (x0 : Dm (.imm S_BatBatch)) (h0 : Dn I) (h1 : Dn I) (h2 : Dn I) (h3 : Dn I) (h4 : (List (Dn S_TstTest))) (h5 : (List (Dn S_BatSig))) (h6 : (List (Dn Sh.bool))) (h7 : (List (Dn S_TstTest))) (h8 : (List (Dn S_BatSig))) (h9 : (List (Dn Sh.bool))) : St := mkS [(1, (AV.ptr 1 none [])), (2, (AV.ptr 2 none [])), (3, (AV.ptr 3 none [])), (4, (AV.val I h0))] [(1, (Ob.box S_BatBatch (AV.val S_BatBatch x0))), (2, (Ob.box S_BatBatch (AV.pair (AV.val I h1) (AV.pair (AV.val I h2) (AV.pair (AV.sref 2502 none []) (AV.pair (AV.val I h3) (AV.pair (AV.sref 12502 none []) (AV.sref 22502 none [])))))))), (2502, (Ob.arr 66 S_TstTest h4)), (12502, (Ob.arr 68 S_BatSig h5)), (22502, (Ob.arr 4 Sh.bool h6)), (3, (Ob.box S_BatBatch (AV.pair (AV.val I x0.1) (AV.pair (AV.val I x0.2.1) (AV.pair (AV.sref 2503 none []) (AV.pair (AV.val I x0.2.2.2.1) (AV.pair (AV.sref 12503 none []) (AV.sref 22503 none [])))))))), (2503, (Ob.arr 66 S_TstTest h7)), (12503, (Ob.arr 68 S_BatSig h8)), (22503, (Ob.arr 4 Sh.bool h9))]
noncomputable def r_ag (x : In_ag) (k : Nat) (p : List Bool) (s : St) : Option Out_ag := rounds (X_ag g_af p_af) Tryz.f65 R_ag M_ag x k p s
variable {g_af p_af}
theorem ev_ag (k : Nat) (x0 : Dm (.imm S_BatBatch)) : E_ag g_af p_af k (x0, ()) =
  (bif (fitL [] x0.2.2.2.2.1) then (bif (fitL [] x0.2.2.2.2.2) then (r_ag g_af p_af (x0, ()) k pt1 (h0_ag x0 (0 : Int) (0 : Int) (0 : Int) (0 : Int) [] [] [] [] (List.append [] x0.2.2.2.2.1) (List.append [] x0.2.2.2.2.2))) else none) else none) := by kernel_rfl
theorem rd0_ag (k : Nat) (x0 : Dm (.imm S_BatBatch)) (h0 : Dn I) (h1 : Dn I) (h2 : Dn I) (h3 : Dn I) (h4 : (List (Dn S_TstTest))) (h5 : (List (Dn S_BatSig))) (h6 : (List (Dn Sh.bool))) (h7 : (List (Dn S_TstTest))) (h8 : (List (Dn S_BatSig))) (h9 : (List (Dn Sh.bool))) : r_ag g_af p_af (x0, ()) (k + 1) pt1 (h0_ag x0 h0 h1 h2 h3 h4 h5 h6 h7 h8 h9) =
  (bif (decide (h0 < (List.length x0.2.2.1 : Int))) then (bif (bif (decide ((0 : Int) <= h0)) then (decide (h0 < (List.length x0.2.2.1 : Int))) else false) then (cl (p_af ((rdL (e := S_TstTest) x0.2.2.1 h0), ())) (g_af ((rdL (e := S_TstTest) x0.2.2.1 h0), ())) fun y0 => (bif (fitL h7 [(y0.1)]) then (r_ag g_af p_af (x0, ()) k pt1 (h0_ag x0 (w64 (h0 + (1 : Int))) h1 h2 h3 h4 h5 h6 (List.append h7 [(y0.1)]) h8 h9)) else none)) else none) else (some ((x0.1, (x0.2.1, (h7, (x0.2.2.2.1, (h8, h9))))), ()))) := by kernel_rfl
theorem S_ag (h_af : C_af p_af g_af) {pre : In_ag -> Bool} {fn : In_ag -> Out_ag} (hev : ∀ x, pre x = true -> ∃ k, E_ag g_af p_af k x = some (fn x)) : C_ag pre fn := sound tysOk mixed (fn := Tryz.f65) rfl rfl rfl (.cons h_af .nil) _ hev
end
/-! ah: sl1In -/
abbrev M_ah : List Vm.Mode := [.imm I, .imm I, .imm I]
abbrev R_ah : List (RK × Sh) := [(.imm, .bool)]
abbrev In_ah : Type := (insSh M_ah).den
abbrev Out_ah : Type := (outSh R_ah M_ah).den
abbrev C_ah (pre : In_ah -> Bool) (fn : In_ah -> Out_ah) : Prop := Sound Tryz.prog 66 ⟨M_ah, R_ah, pre, fn⟩
abbrev X_ah : Ctx := ctx tys 15 (conOf []) (keepOf []) (fun _ => [])
noncomputable abbrev E_ah (k : Nat) (x : In_ah) : Option Out_ah := evFn X_ah Tryz.f66 R_ah M_ah k x
theorem ev_ah (k : Nat) (x0 : Dm (.imm I)) (x1 : Dm (.imm I)) (x2 : Dm (.imm I)) : E_ah k (x0, x1, x2, ()) =
  (bif (decide (x1 <= x0)) then (some ((decide (x0 <= x2)), ())) else (some (false, ()))) := by kernel_rfl
theorem S_ah  {pre : In_ah -> Bool} {fn : In_ah -> Out_ah} (hev : ∀ x, pre x = true -> ∃ k, E_ah k x = some (fn x)) : C_ah pre fn := sound tysOk mixed (fn := Tryz.f66) rfl rfl rfl ConsOk.nil _ hev
/-! ai: sl1Ten -/
abbrev M_ai : List Vm.Mode := [.imm I]
abbrev R_ai : List (RK × Sh) := [(.imm, I)]
abbrev In_ai : Type := (insSh M_ai).den
abbrev Out_ai : Type := (outSh R_ai M_ai).den
abbrev C_ai (pre : In_ai -> Bool) (fn : In_ai -> Out_ai) : Prop := Sound Tryz.prog 187 ⟨M_ai, R_ai, pre, fn⟩
abbrev X_ai : Ctx := ctx tys 13 (conOf []) (keepOf [(pt1, (⟨[(0, .asis), (3, .asis), (4, .asis)], [], []⟩ : Keep))]) (fun _ => [])
noncomputable abbrev E_ai (k : Nat) (x : In_ai) : Option Out_ai := evFn X_ai Tryz.f187 R_ai M_ai k x
def h0_ai (x0 : Dm (.imm I)) (h0 : Dn I) (h1 : Dn I) : St := mkS [(0, (AV.val I x0)), (3, (AV.val I h0)), (4, (AV.val I h1))] []
noncomputable def r_ai (x : In_ai) (k : Nat) (p : List Bool) (s : St) : Option Out_ai := rounds X_ai Tryz.f187 R_ai M_ai x k p s
theorem ev_ai (k : Nat) (x0 : Dm (.imm I)) : E_ai k (x0, ()) =
  (r_ai  (x0, ()) k pt1 (h0_ai x0 (1 : Int) (0 : Int))) := by kernel_rfl
theorem rd0_ai (k : Nat) (x0 : Dm (.imm I)) (h0 : Dn I) (h1 : Dn I) : r_ai  (x0, ()) (k + 1) pt1 (h0_ai x0 h0 h1) =
  (bif (decide (h1 < x0)) then (r_ai  (x0, ()) k pt1 (h0_ai x0 (w64 (h0 * (10 : Int))) (w64 (h1 + (1 : Int))))) else (some (h0, ()))) := by kernel_rfl
theorem S_ai  {pre : In_ai -> Bool} {fn : In_ai -> Out_ai} (hev : ∀ x, pre x = true -> ∃ k, E_ai k x = some (fn x)) : C_ai pre fn := sound tysOk mixed (fn := Tryz.f187) rfl rfl rfl ConsOk.nil _ hev
/-! aj: sDecOk -/
abbrev M_aj : List Vm.Mode := [.imm S_DecDec]
abbrev R_aj : List (RK × Sh) := [(.imm, .bool)]
abbrev In_aj : Type := (insSh M_aj).den
abbrev Out_aj : Type := (outSh R_aj M_aj).den
abbrev C_aj (pre : In_aj -> Bool) (fn : In_aj -> Out_aj) : Prop := Sound Tryz.prog 140 ⟨M_aj, R_aj, pre, fn⟩
section
variable (g_ah : In_ah -> Out_ah) (g_ai : In_ai -> Out_ai) (p_ai : In_ai -> Bool)
abbrev X_aj : Ctx := ctx tys 19 (conOf [(66, ⟨M_ah, R_ah, fun _ => true, g_ah⟩), (187, ⟨M_ai, R_ai, p_ai, g_ai⟩)]) (keepOf []) (fun _ => [])
noncomputable abbrev E_aj (k : Nat) (x : In_aj) : Option Out_aj := evFn (X_aj g_ah g_ai p_ai) Tryz.f140 R_aj M_aj k x
variable {g_ah g_ai p_ai}
theorem ev_aj (k : Nat) (x0 : Dm (.imm S_DecDec)) : E_aj g_ah g_ai p_ai k (x0, ()) =
  (bif (g_ah (x0.2, ((0 : Int), ((3 : Int), ())))).1 then (bif (p_ai (x0.2, ())) then (bif (p_ai (x0.2, ())) then (some ((g_ah (x0.1, ((w64 ((-9999 : Int) * (g_ai (x0.2, ())).1)), ((w64 ((9999 : Int) * (g_ai (x0.2, ())).1)), ())))).1, ())) else none) else none) else (some (false, ()))) := by kernel_rfl
theorem S_aj (h_ah : C_ah (fun _ => true) g_ah) (h_ai : C_ai p_ai g_ai) {pre : In_aj -> Bool} {fn : In_aj -> Out_aj} (hev : ∀ x, pre x = true -> ∃ k, E_aj g_ah g_ai p_ai k x = some (fn x)) : C_aj pre fn := sound tysOk mixed (fn := Tryz.f140) rfl rfl rfl (.cons h_ah (.cons h_ai .nil)) _ hev
end
/-! ak: sl1Near -/
abbrev M_ak : List Vm.Mode := [.imm I, .imm I]
abbrev R_ak : List (RK × Sh) := [(.imm, I)]
abbrev In_ak : Type := (insSh M_ak).den
abbrev Out_ak : Type := (outSh R_ak M_ak).den
abbrev C_ak (pre : In_ak -> Bool) (fn : In_ak -> Out_ak) : Prop := Sound Tryz.prog 251 ⟨M_ak, R_ak, pre, fn⟩
section
variable (g_ak : In_ak -> Out_ak) (p_ak : In_ak -> Bool)
abbrev X_ak : Ctx := ctx tys 19 (conOf [(251, ⟨M_ak, R_ak, p_ak, g_ak⟩)]) (keepOf []) (fun _ => [])
noncomputable abbrev E_ak (k : Nat) (x : In_ak) : Option Out_ak := evFn (X_ak g_ak p_ak) Tryz.f251 R_ak M_ak k x
variable {g_ak p_ak}
theorem ev_ak (k : Nat) (x0 : Dm (.imm I)) (x1 : Dm (.imm I)) : E_ak g_ak p_ak k (x0, x1, ()) =
  (bif (decide (x0 < (0 : Int))) then (bif (p_ak ((w64 ((0 : Int) - x0)), (x1, ()))) then (some ((w64 ((0 : Int) - (g_ak ((w64 ((0 : Int) - x0)), (x1, ()))).1)), ())) else none) else (bif (bif (decide ((w64 ((2 : Int) * x1)) = (0 : Int))) then false else true) then (some ((w64 (Int.tdiv (w64 ((w64 ((2 : Int) * x0)) + x1)) (w64 ((2 : Int) * x1)))), ())) else none)) := by kernel_rfl
theorem S_ak (h_ak : C_ak p_ak g_ak) {pre : In_ak -> Bool} {fn : In_ak -> Out_ak} (hev : ∀ x, pre x = true -> ∃ k, E_ak g_ak p_ak k x = some (fn x)) : C_ak pre fn := sound tysOk mixed (fn := Tryz.f251) rfl rfl rfl (.cons h_ak .nil) _ hev
end
theorem S0_ak {fn : In_ak -> Out_ak} : C_ak (fun _ => false) fn := sound tysOk mixed (fn := Tryz.f251) (n := 19) (keep := keepOf []) (fz := fun _ => []) rfl rfl rfl ConsOk.nil _ fun x hx => by cases hx
/-! al: sl1At -/
abbrev M_al : List Vm.Mode := [.imm S_DecDec, .imm I]
abbrev R_al : List (RK × Sh) := [(.imm, S_DecDec)]
abbrev In_al : Type := (insSh M_al).den
abbrev Out_al : Type := (outSh R_al M_al).den
abbrev C_al (pre : In_al -> Bool) (fn : In_al -> Out_al) : Prop := Sound Tryz.prog 230 ⟨M_al, R_al, pre, fn⟩
section
variable (g_ai : In_ai -> Out_ai) (p_ai : In_ai -> Bool) (g_ak : In_ak -> Out_ak) (p_ak : In_ak -> Bool)
abbrev X_al : Ctx := ctx tys 29 (conOf [(187, ⟨M_ai, R_ai, p_ai, g_ai⟩), (251, ⟨M_ak, R_ak, p_ak, g_ak⟩)]) (keepOf []) (fun _ => [])
noncomputable abbrev E_al (k : Nat) (x : In_al) : Option Out_al := evFn (X_al g_ai p_ai g_ak p_ak) Tryz.f230 R_al M_al k x
variable {g_ai p_ai g_ak p_ak}
theorem ev_al (k : Nat) (x0 : Dm (.imm S_DecDec)) (x1 : Dm (.imm I)) : E_al g_ai p_ai g_ak p_ak k (x0, x1, ()) =
  (bif (decide (x0.2 <= x1)) then (bif (p_ai ((w64 (x1 - x0.2)), ())) then (some (((w64 (x0.1 * (g_ai ((w64 (x1 - x0.2)), ())).1)), x1), ())) else none) else (bif (p_ai ((w64 (x0.2 - x1)), ())) then (bif (p_ak (x0.1, ((g_ai ((w64 (x0.2 - x1)), ())).1, ()))) then (some (((g_ak (x0.1, ((g_ai ((w64 (x0.2 - x1)), ())).1, ()))).1, x1), ())) else none) else none)) := by kernel_rfl
theorem S_al (h_ai : C_ai p_ai g_ai) (h_ak : C_ak p_ak g_ak) {pre : In_al -> Bool} {fn : In_al -> Out_al} (hev : ∀ x, pre x = true -> ∃ k, E_al g_ai p_ai g_ak p_ak k x = some (fn x)) : C_al pre fn := sound tysOk mixed (fn := Tryz.f230) rfl rfl rfl (.cons h_ai (.cons h_ak .nil)) _ hev
end
/-! am: sDecCmp -/
abbrev M_am : List Vm.Mode := [.imm S_DecDec, .imm S_DecDec]
abbrev R_am : List (RK × Sh) := [(.imm, I)]
abbrev In_am : Type := (insSh M_am).den
abbrev Out_am : Type := (outSh R_am M_am).den
abbrev C_am (pre : In_am -> Bool) (fn : In_am -> Out_am) : Prop := Sound Tryz.prog 228 ⟨M_am, R_am, pre, fn⟩
section
variable (g_aj : In_aj -> Out_aj) (g_al : In_al -> Out_al) (p_al : In_al -> Bool)
abbrev X_am : Ctx := ctx tys 29 (conOf [(140, ⟨M_aj, R_aj, fun _ => true, g_aj⟩), (230, ⟨M_al, R_al, p_al, g_al⟩)]) (keepOf []) (fun _ => [])
noncomputable abbrev E_am (k : Nat) (x : In_am) : Option Out_am := evFn (X_am g_aj g_al p_al) Tryz.f228 R_am M_am k x
variable {g_aj g_al p_al}
theorem ev_am (k : Nat) (x0 : Dm (.imm S_DecDec)) (x1 : Dm (.imm S_DecDec)) : E_am g_aj g_al p_al k (x0, x1, ()) =
  (bif (bif (g_aj (x0, ())).1 then false else true) then (some ((0 : Int), ())) else (bif (bif (g_aj (x1, ())).1 then false else true) then (some ((0 : Int), ())) else (bif (p_al (x0, ((3 : Int), ()))) then (bif (p_al (x1, ((3 : Int), ()))) then (bif (decide ((g_al (x0, ((3 : Int), ()))).1.1 < (g_al (x1, ((3 : Int), ()))).1.1)) then (some ((-1 : Int), ())) else (bif (decide ((g_al (x1, ((3 : Int), ()))).1.1 < (g_al (x0, ((3 : Int), ()))).1.1)) then (some ((1 : Int), ())) else (some ((0 : Int), ())))) else none) else none))) := by kernel_rfl
theorem S_am (h_aj : C_aj (fun _ => true) g_aj) (h_al : C_al p_al g_al) {pre : In_am -> Bool} {fn : In_am -> Out_am} (hev : ∀ x, pre x = true -> ∃ k, E_am g_aj g_al p_al k x = some (fn x)) : C_am pre fn := sound tysOk mixed (fn := Tryz.f228) rfl rfl rfl (.cons h_aj (.cons h_al .nil)) _ hev
end
/-! an: sl3Test -/
abbrev M_an : List Vm.Mode := [.imm S_SpcTest]
abbrev R_an : List (RK × Sh) := [(.imm, .bool)]
abbrev In_an : Type := (insSh M_an).den
abbrev Out_an : Type := (outSh R_an M_an).den
abbrev C_an (pre : In_an -> Bool) (fn : In_an -> Out_an) : Prop := Sound Tryz.prog 172 ⟨M_an, R_an, pre, fn⟩
section
variable (g_ah : In_ah -> Out_ah) (g_aj : In_aj -> Out_aj) (g_am : In_am -> Out_am)
abbrev X_an : Ctx := ctx tys 29 (conOf [(66, ⟨M_ah, R_ah, fun _ => true, g_ah⟩), (140, ⟨M_aj, R_aj, fun _ => true, g_aj⟩), (228, ⟨M_am, R_am, fun _ => true, g_am⟩)]) (keepOf []) (fun _ => [])
noncomputable abbrev E_an (k : Nat) (x : In_an) : Option Out_an := evFn (X_an g_ah g_aj g_am) Tryz.f172 R_an M_an k x
variable {g_ah g_aj g_am}
theorem ev_an (k : Nat) (x0 : Dm (.imm S_SpcTest)) : E_an g_ah g_aj g_am k (x0, ()) =
  (bif (g_ah (x0.1, ((1 : Int), ((4 : Int), ())))).1 then (bif (g_aj (x0.2.1, ())).1 then (bif (g_aj (x0.2.2.1, ())).1 then (bif (decide ((g_am (x0.2.1, (x0.2.2.1, ()))).1 <= (0 : Int))) then (some ((g_ah (x0.2.2.2, ((0 : Int), ((3 : Int), ())))).1, ())) else (some (false, ()))) else (some (false, ()))) else (some (false, ()))) else (some (false, ()))) := by kernel_rfl
theorem S_an (h_ah : C_ah (fun _ => true) g_ah) (h_aj : C_aj (fun _ => true) g_aj) (h_am : C_am (fun _ => true) g_am) {pre : In_an -> Bool} {fn : In_an -> Out_an} (hev : ∀ x, pre x = true -> ∃ k, E_an g_ah g_aj g_am k x = some (fn x)) : C_an pre fn := sound tysOk mixed (fn := Tryz.f172) rfl rfl rfl (.cons h_ah (.cons h_aj (.cons h_am .nil))) _ hev
end
/-! ao: sTstNeed -/
abbrev M_ao : List Vm.Mode := [.imm I]
abbrev R_ao : List (RK × Sh) := [(.imm, I)]
abbrev In_ao : Type := (insSh M_ao).den
abbrev Out_ao : Type := (outSh R_ao M_ao).den
abbrev C_ao (pre : In_ao -> Bool) (fn : In_ao -> Out_ao) : Prop := Sound Tryz.prog 173 ⟨M_ao, R_ao, pre, fn⟩
abbrev X_ao : Ctx := ctx tys 8 (conOf []) (keepOf []) (fun _ => [])
noncomputable abbrev E_ao (k : Nat) (x : In_ao) : Option Out_ao := evFn X_ao Tryz.f173 R_ao M_ao k x
theorem ev_ao (k : Nat) (x0 : Dm (.imm I)) : E_ao k (x0, ()) =
  (bif (decide (x0 = (1 : Int))) then (some ((1 : Int), ())) else (bif (decide (x0 = (2 : Int))) then (some ((2 : Int), ())) else (some ((0 : Int), ())))) := by kernel_rfl
theorem S_ao  {pre : In_ao -> Bool} {fn : In_ao -> Out_ao} (hev : ∀ x, pre x = true -> ∃ k, E_ao k x = some (fn x)) : C_ao pre fn := sound tysOk mixed (fn := Tryz.f173) rfl rfl rfl ConsOk.nil _ hev
/-! ap: sSpcIn -/
abbrev M_ap : List Vm.Mode := [.imm S_SpcTest, .imm S_DecDec]
abbrev R_ap : List (RK × Sh) := [(.imm, .bool)]
abbrev In_ap : Type := (insSh M_ap).den
abbrev Out_ap : Type := (outSh R_ap M_ap).den
abbrev C_ap (pre : In_ap -> Bool) (fn : In_ap -> Out_ap) : Prop := Sound Tryz.prog 175 ⟨M_ap, R_ap, pre, fn⟩
section
variable (g_an : In_an -> Out_an) (g_aj : In_aj -> Out_aj) (g_al : In_al -> Out_al) (p_al : In_al -> Bool) (g_am : In_am -> Out_am)
abbrev X_ap : Ctx := ctx tys 30 (conOf [(172, ⟨M_an, R_an, fun _ => true, g_an⟩), (140, ⟨M_aj, R_aj, fun _ => true, g_aj⟩), (230, ⟨M_al, R_al, p_al, g_al⟩), (228, ⟨M_am, R_am, fun _ => true, g_am⟩)]) (keepOf []) (fun _ => [])
noncomputable abbrev E_ap (k : Nat) (x : In_ap) : Option Out_ap := evFn (X_ap g_an g_aj g_al p_al g_am) Tryz.f175 R_ap M_ap k x
variable {g_an g_aj g_al p_al g_am}
theorem ev_ap (k : Nat) (x0 : Dm (.imm S_SpcTest)) (x1 : Dm (.imm S_DecDec)) : E_ap g_an g_aj g_al p_al g_am k (x0, x1, ()) =
  (bif (bif (g_an (x0, ())).1 then false else true) then (some (false, ())) else (bif (bif (g_aj (x1, ())).1 then false else true) then (some (false, ())) else (bif (p_al (x1, (x0.2.2.2, ()))) then (bif (decide ((g_am (x0.2.1, ((g_al (x1, (x0.2.2.2, ()))).1, ()))).1 <= (0 : Int))) then (some ((decide ((g_am ((g_al (x1, (x0.2.2.2, ()))).1, (x0.2.2.1, ()))).1 <= (0 : Int))), ())) else (some (false, ()))) else none))) := by kernel_rfl
theorem S_ap (h_an : C_an (fun _ => true) g_an) (h_aj : C_aj (fun _ => true) g_aj) (h_al : C_al p_al g_al) (h_am : C_am (fun _ => true) g_am) {pre : In_ap -> Bool} {fn : In_ap -> Out_ap} (hev : ∀ x, pre x = true -> ∃ k, E_ap g_an g_aj g_al p_al g_am k x = some (fn x)) : C_ap pre fn := sound tysOk mixed (fn := Tryz.f175) rfl rfl rfl (.cons h_an (.cons h_aj (.cons h_al (.cons h_am .nil)))) _ hev
end
/-! aq: sDecMean -/
abbrev M_aq : List Vm.Mode := [.imm L_DecDec, .imm I]
abbrev R_aq : List (RK × Sh) := [(.imm, S_DecDec)]
abbrev In_aq : Type := (insSh M_aq).den
abbrev Out_aq : Type := (outSh R_aq M_aq).den
abbrev C_aq (pre : In_aq -> Bool) (fn : In_aq -> Out_aq) : Prop := Sound Tryz.prog 263 ⟨M_aq, R_aq, pre, fn⟩
section
variable (g_ah : In_ah -> Out_ah) (g_aj : In_aj -> Out_aj) (g_al : In_al -> Out_al) (p_al : In_al -> Bool) (g_ai : In_ai -> Out_ai) (p_ai : In_ai -> Bool) (g_ak : In_ak -> Out_ak) (p_ak : In_ak -> Bool)
abbrev X_aq : Ctx := ctx tys 52 (conOf [(66, ⟨M_ah, R_ah, fun _ => true, g_ah⟩), (140, ⟨M_aj, R_aj, fun _ => true, g_aj⟩), (230, ⟨M_al, R_al, p_al, g_al⟩), (187, ⟨M_ai, R_ai, p_ai, g_ai⟩), (251, ⟨M_ak, R_ak, p_ak, g_ak⟩)]) (keepOf [(pt2, (⟨[(0, .asis), (1, .asis), (4, .asis), (5, .asis), (6, .asis)], [(4, .asis)], []⟩ : Keep))]) (fun _ => [])
noncomputable abbrev E_aq (k : Nat) (x : In_aq) : Option Out_aq := evFn (X_aq g_ah g_aj g_al p_al g_ai p_ai g_ak p_ak) Tryz.f263 R_aq M_aq k x
def h0_aq (x0 : Dm (.imm L_DecDec)) (x1 : Dm (.imm I)) (h0 : Dn I) (h1 : Dn I) (h2 : Dn S_DecDec) : St := mkS [(0, (AV.val L_DecDec x0)), (1, (AV.val I x1)), (4, (AV.ptr 4 none [])), (5, (AV.val I h0)), (6, (AV.val I h1))] [(4, (Ob.box S_DecDec (AV.val S_DecDec h2)))]
noncomputable def r_aq (x : In_aq) (k : Nat) (p : List Bool) (s : St) : Option Out_aq := rounds (X_aq g_ah g_aj g_al p_al g_ai p_ai g_ak p_ak) Tryz.f263 R_aq M_aq x k p s
variable {g_ah g_aj g_al p_al g_ai p_ai g_ak p_ak}
theorem ev_aq (k : Nat) (x0 : Dm (.imm L_DecDec)) (x1 : Dm (.imm I)) : E_aq g_ah g_aj g_al p_al g_ai p_ai g_ak p_ak k (x0, x1, ()) =
  (bif (decide ((List.length x0 : Int) = (0 : Int))) then (some (((0 : Int), (0 : Int)), ())) else (bif (decide ((100 : Int) < (List.length x0 : Int))) then (some (((0 : Int), (0 : Int)), ())) else (bif (bif (g_ah (x1, ((0 : Int), ((3 : Int), ())))).1 then false else true) then (some (((0 : Int), (0 : Int)), ())) else (r_aq g_ah g_aj g_al p_al g_ai p_ai g_ak p_ak (x0, x1, ()) k pt2 (h0_aq x0 x1 (0 : Int) (0 : Int) ((0 : Int), (0 : Int))))))) := by kernel_rfl
theorem rd0_aq (k : Nat) (x0 : Dm (.imm L_DecDec)) (x1 : Dm (.imm I)) (h0 : Dn I) (h1 : Dn I) (h2 : Dn S_DecDec) : r_aq g_ah g_aj g_al p_al g_ai p_ai g_ak p_ak (x0, x1, ()) (k + 1) pt2 (h0_aq x0 x1 h0 h1 h2) =
  (bif (decide (h1 < (List.length x0 : Int))) then (bif (bif (decide ((0 : Int) <= h1)) then (decide (h1 < (List.length x0 : Int))) else false) then (bif (bif (g_aj ((rdL (e := S_DecDec) x0 h1), ())).1 then false else true) then (some (((0 : Int), (0 : Int)), ())) else (bif (bif (decide ((0 : Int) <= h1)) then (decide (h1 < (List.length x0 : Int))) else false) then (bif (p_al ((rdL (e := S_DecDec) x0 h1), ((3 : Int), ()))) then (r_aq g_ah g_aj g_al p_al g_ai p_ai g_ak p_ak (x0, x1, ()) k pt2 (h0_aq x0 x1 (w64 (h0 + (g_al ((rdL (e := S_DecDec) x0 h1), ((3 : Int), ()))).1.1)) (w64 (h1 + (1 : Int))) h2)) else none) else none)) else none) else (bif (p_ai ((w64 ((3 : Int) - x1)), ())) then (bif (p_ak (h0, ((w64 ((List.length x0 : Int) * (g_ai ((w64 ((3 : Int) - x1)), ())).1)), ()))) then (some (((g_ak (h0, ((w64 ((List.length x0 : Int) * (g_ai ((w64 ((3 : Int) - x1)), ())).1)), ()))).1, x1), ())) else none) else none)) := by kernel_rfl
theorem S_aq (h_ah : C_ah (fun _ => true) g_ah) (h_aj : C_aj (fun _ => true) g_aj) (h_al : C_al p_al g_al) (h_ai : C_ai p_ai g_ai) (h_ak : C_ak p_ak g_ak) {pre : In_aq -> Bool} {fn : In_aq -> Out_aq} (hev : ∀ x, pre x = true -> ∃ k, E_aq g_ah g_aj g_al p_al g_ai p_ai g_ak p_ak k x = some (fn x)) : C_aq pre fn := sound tysOk mixed (fn := Tryz.f263) rfl rfl rfl (.cons h_ah (.cons h_aj (.cons h_al (.cons h_ai (.cons h_ak .nil))))) _ hev
end
/-! ar: sl5Tell -/
abbrev M_ar : List Vm.Mode := [.imm S_TstTest]
abbrev R_ar : List (RK × Sh) := [(.imm, S_DecDec)]
abbrev In_ar : Type := (insSh M_ar).den
abbrev Out_ar : Type := (outSh R_ar M_ar).den
abbrev C_ar (pre : In_ar -> Bool) (fn : In_ar -> Out_ar) : Prop := Sound Tryz.prog 250 ⟨M_ar, R_ar, pre, fn⟩
section
variable (g_al : In_al -> Out_al) (p_al : In_al -> Bool) (g_aq : In_aq -> Out_aq) (p_aq : In_aq -> Bool)
abbrev X_ar : Ctx := ctx tys 33 (conOf [(230, ⟨M_al, R_al, p_al, g_al⟩), (263, ⟨M_aq, R_aq, p_aq, g_aq⟩)]) (keepOf []) (fun _ => [])
noncomputable abbrev E_ar (k : Nat) (x : In_ar) : Option Out_ar := evFn (X_ar g_al p_al g_aq p_aq) Tryz.f250 R_ar M_ar k x
variable {g_al p_al g_aq p_aq}
theorem ev_ar (k : Nat) (x0 : Dm (.imm S_TstTest)) : E_ar g_al p_al g_aq p_aq k (x0, ()) =
  (bif (decide (x0.2.2.2.1 = (1 : Int))) then (bif (bif (decide ((0 : Int) <= (0 : Int))) then (decide ((0 : Int) < (List.length x0.2.2.2.2 : Int))) else false) then (bif (p_al ((rdL (e := S_DecDec) x0.2.2.2.2 (0 : Int)), (x0.1.2.2.2, ()))) then (some ((g_al ((rdL (e := S_DecDec) x0.2.2.2.2 (0 : Int)), (x0.1.2.2.2, ()))).1, ())) else none) else none) else (bif (decide (x0.2.2.2.1 = (2 : Int))) then (bif (fitL [x0.2.2.1] x0.2.2.2.2) then (bif (p_aq ((List.append [x0.2.2.1] x0.2.2.2.2), (x0.1.2.2.2, ()))) then (some ((g_aq ((List.append [x0.2.2.1] x0.2.2.2.2), (x0.1.2.2.2, ()))).1, ())) else none) else none) else (bif (p_al (x0.2.2.1, (x0.1.2.2.2, ()))) then (some ((g_al (x0.2.2.1, (x0.1.2.2.2, ()))).1, ())) else none))) := by kernel_rfl
theorem S_ar (h_al : C_al p_al g_al) (h_aq : C_aq p_aq g_aq) {pre : In_ar -> Bool} {fn : In_ar -> Out_ar} (hev : ∀ x, pre x = true -> ∃ k, E_ar g_al p_al g_aq p_aq k x = some (fn x)) : C_ar pre fn := sound tysOk mixed (fn := Tryz.f250) rfl rfl rfl (.cons h_al (.cons h_aq .nil)) _ hev
end
/-! as: sl5Passes -/
abbrev M_as : List Vm.Mode := [.imm S_TstTest]
abbrev R_as : List (RK × Sh) := [(.imm, .bool)]
abbrev In_as : Type := (insSh M_as).den
abbrev Out_as : Type := (outSh R_as M_as).den
abbrev C_as (pre : In_as -> Bool) (fn : In_as -> Out_as) : Prop := Sound Tryz.prog 229 ⟨M_as, R_as, pre, fn⟩
section
variable (g_ap : In_ap -> Out_ap) (g_ar : In_ar -> Out_ar) (p_ar : In_ar -> Bool)
abbrev X_as : Ctx := ctx tys 25 (conOf [(175, ⟨M_ap, R_ap, fun _ => true, g_ap⟩), (250, ⟨M_ar, R_ar, p_ar, g_ar⟩)]) (keepOf [(pt0, (⟨[(1, .asis), (3, .asis)], [(1, .asis)], []⟩ : Keep))]) (fun _ => [])
noncomputable abbrev E_as (k : Nat) (x : In_as) : Option Out_as := evFn (X_as g_ap g_ar p_ar) Tryz.f229 R_as M_as k x
def h0_as (x0 : Dm (.imm S_TstTest)) (h0 : Dn I) : St := mkS [(1, (AV.ptr 1 none [])), (3, (AV.val I h0))] [(1, (Ob.box S_TstTest (AV.val S_TstTest x0)))]
noncomputable def r_as (x : In_as) (k : Nat) (p : List Bool) (s : St) : Option Out_as := rounds (X_as g_ap g_ar p_ar) Tryz.f229 R_as M_as x k p s
variable {g_ap g_ar p_ar}
theorem ev_as (k : Nat) (x0 : Dm (.imm S_TstTest)) : E_as g_ap g_ar p_ar k (x0, ()) =
  (r_as g_ap g_ar p_ar (x0, ()) k pt0 (h0_as x0 (0 : Int))) := by kernel_rfl
theorem rd0_as (k : Nat) (x0 : Dm (.imm S_TstTest)) (h0 : Dn I) : r_as g_ap g_ar p_ar (x0, ()) (k + 1) pt0 (h0_as x0 h0) =
  (bif (decide (h0 < (List.length x0.2.2.2.2 : Int))) then (bif (bif (decide ((0 : Int) <= h0)) then (decide (h0 < (List.length x0.2.2.2.2 : Int))) else false) then (bif (bif (g_ap (x0.1, ((rdL (e := S_DecDec) x0.2.2.2.2 h0), ()))).1 then false else true) then (some (false, ())) else (r_as g_ap g_ar p_ar (x0, ()) k pt0 (h0_as x0 (w64 (h0 + (1 : Int)))))) else none) else (bif (p_ar (x0, ())) then (some ((g_ap (x0.1, ((g_ar (x0, ())).1, ()))).1, ())) else none)) := by kernel_rfl
theorem S_as (h_ap : C_ap (fun _ => true) g_ap) (h_ar : C_ar p_ar g_ar) {pre : In_as -> Bool} {fn : In_as -> Out_as} (hev : ∀ x, pre x = true -> ∃ k, E_as g_ap g_ar p_ar k x = some (fn x)) : C_as pre fn := sound tysOk mixed (fn := Tryz.f229) rfl rfl rfl (.cons h_ap (.cons h_ar .nil)) _ hev
end
/-! at: sl5State -/
abbrev M_at : List Vm.Mode := [.imm S_TstTest]
abbrev R_at : List (RK × Sh) := [(.imm, I)]
abbrev In_at : Type := (insSh M_at).den
abbrev Out_at : Type := (outSh R_at M_at).den
abbrev C_at (pre : In_at -> Bool) (fn : In_at -> Out_at) : Prop := Sound Tryz.prog 174 ⟨M_at, R_at, pre, fn⟩
section
variable (g_ap : In_ap -> Out_ap) (g_ao : In_ao -> Out_ao) (g_as : In_as -> Out_as) (p_as : In_as -> Bool)
abbrev X_at : Ctx := ctx tys 33 (conOf [(175, ⟨M_ap, R_ap, fun _ => true, g_ap⟩), (173, ⟨M_ao, R_ao, fun _ => true, g_ao⟩), (229, ⟨M_as, R_as, p_as, g_as⟩)]) (keepOf []) (fun _ => [])
noncomputable abbrev E_at (k : Nat) (x : In_at) : Option Out_at := evFn (X_at g_ap g_ao g_as p_as) Tryz.f174 R_at M_at k x
variable {g_ap g_ao g_as p_as}
theorem ev_at (k : Nat) (x0 : Dm (.imm S_TstTest)) : E_at g_ap g_ao g_as p_as k (x0, ()) =
  (bif (decide (x0.2.2.2.1 = (0 : Int))) then (bif (g_ap (x0.1, (x0.2.2.1, ()))).1 then (some ((3 : Int), ())) else (bif (decide (x0.2.2.2.1 = (0 : Int))) then (some ((1 : Int), ())) else (bif (decide (x0.2.2.2.1 = (3 : Int))) then (some ((4 : Int), ())) else (bif (decide ((List.length x0.2.2.2.2 : Int) < (g_ao (x0.2.2.2.1, ())).1)) then (some ((2 : Int), ())) else (bif (p_as (x0, ())) then (bif (g_as (x0, ())).1 then (some ((3 : Int), ())) else (some ((4 : Int), ()))) else none))))) else (bif (decide (x0.2.2.2.1 = (0 : Int))) then (some ((1 : Int), ())) else (bif (decide (x0.2.2.2.1 = (3 : Int))) then (some ((4 : Int), ())) else (bif (decide ((List.length x0.2.2.2.2 : Int) < (g_ao (x0.2.2.2.1, ())).1)) then (some ((2 : Int), ())) else (bif (p_as (x0, ())) then (bif (g_as (x0, ())).1 then (some ((3 : Int), ())) else (some ((4 : Int), ()))) else none))))) := by kernel_rfl
theorem S_at (h_ap : C_ap (fun _ => true) g_ap) (h_ao : C_ao (fun _ => true) g_ao) (h_as : C_as p_as g_as) {pre : In_at -> Bool} {fn : In_at -> Out_at} (hev : ∀ x, pre x = true -> ∃ k, E_at g_ap g_ao g_as p_as k x = some (fn x)) : C_at pre fn := sound tysOk mixed (fn := Tryz.f174) rfl rfl rfl (.cons h_ap (.cons h_ao (.cons h_as .nil))) _ hev
end
/-! au: sTstOk -/
abbrev M_au : List Vm.Mode := [.imm S_TstTest]
abbrev R_au : List (RK × Sh) := [(.imm, .bool)]
abbrev In_au : Type := (insSh M_au).den
abbrev Out_au : Type := (outSh R_au M_au).den
abbrev C_au (pre : In_au -> Bool) (fn : In_au -> Out_au) : Prop := Sound Tryz.prog 107 ⟨M_au, R_au, pre, fn⟩
section
variable (g_an : In_an -> Out_an) (g_aj : In_aj -> Out_aj) (g_ah : In_ah -> Out_ah) (g_ao : In_ao -> Out_ao) (g_at : In_at -> Out_at) (p_at : In_at -> Bool) (g_ap : In_ap -> Out_ap)
abbrev X_au : Ctx := ctx tys 73 (conOf [(172, ⟨M_an, R_an, fun _ => true, g_an⟩), (140, ⟨M_aj, R_aj, fun _ => true, g_aj⟩), (66, ⟨M_ah, R_ah, fun _ => true, g_ah⟩), (173, ⟨M_ao, R_ao, fun _ => true, g_ao⟩), (174, ⟨M_at, R_at, p_at, g_at⟩), (175, ⟨M_ap, R_ap, fun _ => true, g_ap⟩)]) (keepOf [(pt1, (⟨[(1, .asis), (3, .asis)], [(1, .asis)], []⟩ : Keep))]) (fun _ => [])
noncomputable abbrev E_au (k : Nat) (x : In_au) : Option Out_au := evFn (X_au g_an g_aj g_ah g_ao g_at p_at g_ap) Tryz.f107 R_au M_au k x
def h0_au (x0 : Dm (.imm S_TstTest)) (h0 : Dn I) : St := mkS [(1, (AV.ptr 1 none [])), (3, (AV.val I h0))] [(1, (Ob.box S_TstTest (AV.val S_TstTest x0)))]
noncomputable def r_au (x : In_au) (k : Nat) (p : List Bool) (s : St) : Option Out_au := rounds (X_au g_an g_aj g_ah g_ao g_at p_at g_ap) Tryz.f107 R_au M_au x k p s
variable {g_an g_aj g_ah g_ao g_at p_at g_ap}
theorem ev_au (k : Nat) (x0 : Dm (.imm S_TstTest)) : E_au g_an g_aj g_ah g_ao g_at p_at g_ap k (x0, ()) =
  (bif (bif (g_an (x0.1, ())).1 then false else true) then (some (false, ())) else (bif (bif (g_aj (x0.2.2.1, ())).1 then false else true) then (some (false, ())) else (bif (bif (g_ah (x0.2.2.2.1, ((0 : Int), ((3 : Int), ())))).1 then false else true) then (some (false, ())) else (bif (decide ((g_ao (x0.2.2.2.1, ())).1 < (List.length x0.2.2.2.2 : Int))) then (some (false, ())) else (r_au g_an g_aj g_ah g_ao g_at p_at g_ap (x0, ()) k pt1 (h0_au x0 (0 : Int))))))) := by kernel_rfl
theorem rd0_au (k : Nat) (x0 : Dm (.imm S_TstTest)) (h0 : Dn I) : r_au g_an g_aj g_ah g_ao g_at p_at g_ap (x0, ()) (k + 1) pt1 (h0_au x0 h0) =
  (bif (decide (h0 < (List.length x0.2.2.2.2 : Int))) then (bif (bif (decide ((0 : Int) <= h0)) then (decide (h0 < (List.length x0.2.2.2.2 : Int))) else false) then (bif (bif (g_aj ((rdL (e := S_DecDec) x0.2.2.2.2 h0), ())).1 then false else true) then (some (false, ())) else (r_au g_an g_aj g_ah g_ao g_at p_at g_ap (x0, ()) k pt1 (h0_au x0 (w64 (h0 + (1 : Int)))))) else none) else (bif (decide (x0.2.1 = (0 : Int))) then (bif (Sh.beq S_DecDec x0.2.2.1 ((0 : Int), (0 : Int))) then (some ((decide (x0.2.2.2.1 = (0 : Int))), ())) else (some (false, ()))) else (bif (p_at (x0, ())) then (bif (decide (x0.2.1 = (g_at (x0, ())).1)) then (bif (decide (x0.2.2.2.1 = (0 : Int))) then (some (true, ())) else (some ((bif (g_ap (x0.1, (x0.2.2.1, ()))).1 then false else true), ()))) else (some (false, ()))) else none))) := by kernel_rfl
theorem S_au (h_an : C_an (fun _ => true) g_an) (h_aj : C_aj (fun _ => true) g_aj) (h_ah : C_ah (fun _ => true) g_ah) (h_ao : C_ao (fun _ => true) g_ao) (h_at : C_at p_at g_at) (h_ap : C_ap (fun _ => true) g_ap) {pre : In_au -> Bool} {fn : In_au -> Out_au} (hev : ∀ x, pre x = true -> ∃ k, E_au g_an g_aj g_ah g_ao g_at p_at g_ap k x = some (fn x)) : C_au pre fn := sound tysOk mixed (fn := Tryz.f107) rfl rfl rfl (.cons h_an (.cons h_aj (.cons h_ah (.cons h_ao (.cons h_at (.cons h_ap .nil)))))) _ hev
end
/-! av: sl6Mix -/
abbrev M_av : List Vm.Mode := [.imm I, .imm I]
abbrev R_av : List (RK × Sh) := [(.imm, I)]
abbrev In_av : Type := (insSh M_av).den
abbrev Out_av : Type := (outSh R_av M_av).den
abbrev C_av (pre : In_av -> Bool) (fn : In_av -> Out_av) : Prop := Sound Tryz.prog 186 ⟨M_av, R_av, pre, fn⟩
abbrev X_av : Ctx := ctx tys 13 (conOf []) (keepOf []) (fun _ => [])
noncomputable abbrev E_av (k : Nat) (x : In_av) : Option Out_av := evFn X_av Tryz.f186 R_av M_av k x
theorem ev_av (k : Nat) (x0 : Dm (.imm I)) (x1 : Dm (.imm I)) : E_av k (x0, x1, ()) =
  (bif (bif (decide ((999983 : Int) = (0 : Int))) then false else true) then (bif (bif (decide ((999983 : Int) = (0 : Int))) then false else true) then (some ((Int.tmod (w64 ((w64 ((w64 ((w64 (x0 * (8191 : Int))) + (Int.tmod x1 (999983 : Int)))) + (999983 : Int))) + (7 : Int))) (999983 : Int)), ())) else none) else none) := by kernel_rfl
theorem S_av  {pre : In_av -> Bool} {fn : In_av -> Out_av} (hev : ∀ x, pre x = true -> ∃ k, E_av k x = some (fn x)) : C_av pre fn := sound tysOk mixed (fn := Tryz.f186) rfl rfl rfl ConsOk.nil _ hev
/-! aw: sBatMark -/
abbrev M_aw : List Vm.Mode := [.imm S_BatBatch]
abbrev R_aw : List (RK × Sh) := [(.imm, I)]
abbrev In_aw : Type := (insSh M_aw).den
abbrev Out_aw : Type := (outSh R_aw M_aw).den
abbrev C_aw (pre : In_aw -> Bool) (fn : In_aw -> Out_aw) : Prop := Sound Tryz.prog 119 ⟨M_aw, R_aw, pre, fn⟩
section
variable (g_av : In_av -> Out_av)
abbrev X_aw : Ctx := ctx tys 79 (conOf [(186, ⟨M_av, R_av, fun _ => true, g_av⟩)]) (keepOf [(pt2, (⟨[(1, .asis), (3, .asis), (7, .asis)], [(1, .asis)], []⟩ : Keep)), (pt4, (⟨[(1, .asis), (3, .asis), (4, .asis), (5, .asis), (6, .asis)], [(1, .asis), (5, .asis)], []⟩ : Keep)), (pt1, (⟨[(1, .asis), (3, .asis), (4, .asis)], [(1, .asis)], []⟩ : Keep))]) (fun _ => [])
noncomputable abbrev E_aw (k : Nat) (x : In_aw) : Option Out_aw := evFn (X_aw g_av) Tryz.f119 R_aw M_aw k x
def h0_aw (x0 : Dm (.imm S_BatBatch)) (h0 : Dn I) (h1 : Dn I) : St := mkS [(1, (AV.ptr 1 none [])), (3, (AV.val I h0)), (4, (AV.val I h1))] [(1, (Ob.box S_BatBatch (AV.val S_BatBatch x0)))]
def h1_aw (x0 : Dm (.imm S_BatBatch)) (h0 : Dn I) (h1 : Dn I) (h2 : Dn I) (h3 : Dn S_TstTest) : St := mkS [(1, (AV.ptr 1 none [])), (3, (AV.val I h0)), (4, (AV.val I h1)), (5, (AV.ptr 5 none [])), (6, (AV.val I h2))] [(1, (Ob.box S_BatBatch (AV.val S_BatBatch x0))), (5, (Ob.box S_TstTest (AV.val S_TstTest h3)))]
def h2_aw (x0 : Dm (.imm S_BatBatch)) (h0 : Dn I) (h1 : Dn I) : St := mkS [(1, (AV.ptr 1 none [])), (3, (AV.val I h0)), (7, (AV.val I h1))] [(1, (Ob.box S_BatBatch (AV.val S_BatBatch x0)))]
noncomputable def r_aw (x : In_aw) (k : Nat) (p : List Bool) (s : St) : Option Out_aw := rounds (X_aw g_av) Tryz.f119 R_aw M_aw x k p s
variable {g_av}
theorem ev_aw (k : Nat) (x0 : Dm (.imm S_BatBatch)) : E_aw g_av k (x0, ()) =
  (r_aw g_av (x0, ()) k pt1 (h0_aw x0 ((g_av ((1 : Int), (x0.1, ()))).1) (0 : Int))) := by kernel_rfl
theorem rd0_aw (k : Nat) (x0 : Dm (.imm S_BatBatch)) (h0 : Dn I) (h1 : Dn I) : r_aw g_av (x0, ()) (k + 1) pt1 (h0_aw x0 h0 h1) =
  (bif (decide (h1 < (List.length x0.2.2.1 : Int))) then (bif (bif (decide ((0 : Int) <= h1)) then (decide (h1 < (List.length x0.2.2.1 : Int))) else false) then (r_aw g_av (x0, ()) k pt4 (h1_aw x0 ((g_av ((g_av ((g_av ((g_av (h0, ((rdL (e := S_TstTest) x0.2.2.1 h1).2.1, ()))).1, ((rdL (e := S_TstTest) x0.2.2.1 h1).2.2.1.1, ()))).1, ((rdL (e := S_TstTest) x0.2.2.1 h1).2.2.1.2, ()))).1, ((rdL (e := S_TstTest) x0.2.2.1 h1).2.2.2.1, ()))).1) h1 (0 : Int) (rdL (e := S_TstTest) x0.2.2.1 h1))) else none) else (r_aw g_av (x0, ()) k pt2 (h2_aw x0 h0 (0 : Int)))) := by kernel_rfl
theorem rd1_aw (k : Nat) (x0 : Dm (.imm S_BatBatch)) (h0 : Dn I) (h1 : Dn I) (h2 : Dn I) (h3 : Dn S_TstTest) : r_aw g_av (x0, ()) (k + 1) pt4 (h1_aw x0 h0 h1 h2 h3) =
  (bif (decide (h2 < (List.length h3.2.2.2.2 : Int))) then (bif (bif (decide ((0 : Int) <= h2)) then (decide (h2 < (List.length h3.2.2.2.2 : Int))) else false) then (bif (bif (decide ((0 : Int) <= h2)) then (decide (h2 < (List.length h3.2.2.2.2 : Int))) else false) then (r_aw g_av (x0, ()) k pt4 (h1_aw x0 ((g_av ((g_av (h0, ((rdL (e := S_DecDec) h3.2.2.2.2 h2).1, ()))).1, ((rdL (e := S_DecDec) h3.2.2.2.2 h2).2, ()))).1) h1 (w64 (h2 + (1 : Int))) h3)) else none) else none) else (r_aw g_av (x0, ()) k pt1 (h0_aw x0 h0 (w64 (h1 + (1 : Int)))))) := by kernel_rfl
theorem rd2_aw (k : Nat) (x0 : Dm (.imm S_BatBatch)) (h0 : Dn I) (h1 : Dn I) : r_aw g_av (x0, ()) (k + 1) pt2 (h2_aw x0 h0 h1) =
  (bif (decide (h1 < (List.length x0.2.2.2.2.2 : Int))) then (bif (bif (decide ((0 : Int) <= h1)) then (decide (h1 < (List.length x0.2.2.2.2.2 : Int))) else false) then (bif (rdL (e := Sh.bool) x0.2.2.2.2.2 h1) then (r_aw g_av (x0, ()) k pt2 (h2_aw x0 ((g_av ((g_av (h0, ((w64 (h1 + (1 : Int))), ()))).1, ((77 : Int), ()))).1) (w64 (h1 + (1 : Int))))) else (r_aw g_av (x0, ()) k pt2 (h2_aw x0 ((g_av (h0, ((w64 (h1 + (1 : Int))), ()))).1) (w64 (h1 + (1 : Int)))))) else none) else (some (h0, ()))) := by kernel_rfl
theorem S_aw (h_av : C_av (fun _ => true) g_av) {pre : In_aw -> Bool} {fn : In_aw -> Out_aw} (hev : ∀ x, pre x = true -> ∃ k, E_aw g_av k x = some (fn x)) : C_aw pre fn := sound tysOk mixed (fn := Tryz.f119) rfl rfl rfl (.cons h_av .nil) _ hev
end
/-! ax: sBatSigned -/
abbrev M_ax : List Vm.Mode := [.imm S_BatBatch, .imm I, .imm I]
abbrev R_ax : List (RK × Sh) := [(.imm, I)]
abbrev In_ax : Type := (insSh M_ax).den
abbrev Out_ax : Type := (outSh R_ax M_ax).den
abbrev C_ax (pre : In_ax -> Bool) (fn : In_ax -> Out_ax) : Prop := Sound Tryz.prog 227 ⟨M_ax, R_ax, pre, fn⟩
section
variable (g_aw : In_aw -> Out_aw) (p_aw : In_aw -> Bool)
abbrev X_ax : Ctx := ctx tys 50 (conOf [(119, ⟨M_aw, R_aw, p_aw, g_aw⟩)]) (keepOf [(pt0, (⟨[(1, .asis), (2, .asis), (3, .asis), (7, .asis)], [(3, .asis)], []⟩ : Keep))]) (fun _ => [])
noncomputable abbrev E_ax (k : Nat) (x : In_ax) : Option Out_ax := evFn (X_ax g_aw p_aw) Tryz.f227 R_ax M_ax k x
def h0_ax (x0 : Dm (.imm S_BatBatch)) (x1 : Dm (.imm I)) (x2 : Dm (.imm I)) (h0 : Dn I) : St := mkS [(1, (AV.val I x1)), (2, (AV.val I x2)), (3, (AV.ptr 3 none [])), (7, (AV.val I h0))] [(3, (Ob.box S_BatBatch (AV.val S_BatBatch x0)))]
noncomputable def r_ax (x : In_ax) (k : Nat) (p : List Bool) (s : St) : Option Out_ax := rounds (X_ax g_aw p_aw) Tryz.f227 R_ax M_ax x k p s
variable {g_aw p_aw}
theorem ev_ax (k : Nat) (x0 : Dm (.imm S_BatBatch)) (x1 : Dm (.imm I)) (x2 : Dm (.imm I)) : E_ax g_aw p_aw k (x0, x1, x2, ()) =
  (r_ax g_aw p_aw (x0, x1, x2, ()) k pt0 (h0_ax x0 x1 x2 (0 : Int))) := by kernel_rfl
theorem rd0_ax (k : Nat) (x0 : Dm (.imm S_BatBatch)) (x1 : Dm (.imm I)) (x2 : Dm (.imm I)) (h0 : Dn I) : r_ax g_aw p_aw (x0, x1, x2, ()) (k + 1) pt0 (h0_ax x0 x1 x2 h0) =
  (bif (decide (h0 < (List.length x0.2.2.2.2.1 : Int))) then (bif (bif (decide ((0 : Int) <= h0)) then (decide (h0 < (List.length x0.2.2.2.2.1 : Int))) else false) then (bif (decide ((rdL (e := S_BatSig) x0.2.2.2.2.1 h0).2.1 = x1)) then (bif (bif (decide ((0 : Int) <= h0)) then (decide (h0 < (List.length x0.2.2.2.2.1 : Int))) else false) then (bif (bif (decide ((rdL (e := S_BatSig) x0.2.2.2.2.1 h0).1 = x2)) then false else true) then (bif (bif (decide ((0 : Int) <= h0)) then (decide (h0 < (List.length x0.2.2.2.2.1 : Int))) else false) then (cl (p_aw (x0, ())) (g_aw (x0, ())) fun y0 => (bif (decide ((rdL (e := S_BatSig) x0.2.2.2.2.1 h0).2.2 = y0.1)) then (bif (bif (decide ((0 : Int) <= h0)) then (decide (h0 < (List.length x0.2.2.2.2.1 : Int))) else false) then (some ((rdL (e := S_BatSig) x0.2.2.2.2.1 h0).1, ())) else none) else (r_ax g_aw p_aw (x0, x1, x2, ()) k pt0 (h0_ax x0 x1 x2 (w64 (h0 + (1 : Int))))))) else none) else (r_ax g_aw p_aw (x0, x1, x2, ()) k pt0 (h0_ax x0 x1 x2 (w64 (h0 + (1 : Int)))))) else none) else (r_ax g_aw p_aw (x0, x1, x2, ()) k pt0 (h0_ax x0 x1 x2 (w64 (h0 + (1 : Int)))))) else none) else (some ((0 : Int), ()))) := by kernel_rfl
theorem S_ax (h_aw : C_aw p_aw g_aw) {pre : In_ax -> Bool} {fn : In_ax -> Out_ax} (hev : ∀ x, pre x = true -> ∃ k, E_ax g_aw p_aw k x = some (fn x)) : C_ax pre fn := sound tysOk mixed (fn := Tryz.f227) rfl rfl rfl (.cons h_aw .nil) _ hev
end
/-! ay: sl6Hands -/
abbrev M_ay : List Vm.Mode := [.imm S_BatBatch]
abbrev R_ay : List (RK × Sh) := [(.imm, .bool)]
abbrev In_ay : Type := (insSh M_ay).den
abbrev Out_ay : Type := (outSh R_ay M_ay).den
abbrev C_ay (pre : In_ay -> Bool) (fn : In_ay -> Out_ay) : Prop := Sound Tryz.prog 171 ⟨M_ay, R_ay, pre, fn⟩
section
variable (g_aw : In_aw -> Out_aw) (p_aw : In_aw -> Bool) (g_ax : In_ax -> Out_ax) (p_ax : In_ax -> Bool)
abbrev X_ay : Ctx := ctx tys 44 (conOf [(119, ⟨M_aw, R_aw, p_aw, g_aw⟩), (227, ⟨M_ax, R_ax, p_ax, g_ax⟩)]) (keepOf [(pt3, (⟨[(1, .asis), (3, .asis), (4, .asis)], [(1, .asis)], []⟩ : Keep)), (pt0, (⟨[(1, .asis), (3, .asis)], [(1, .asis)], []⟩ : Keep))]) (fun _ => [])
noncomputable abbrev E_ay (k : Nat) (x : In_ay) : Option Out_ay := evFn (X_ay g_aw p_aw g_ax p_ax) Tryz.f171 R_ay M_ay k x
def h0_ay (x0 : Dm (.imm S_BatBatch)) (h0 : Dn I) : St := mkS [(1, (AV.ptr 1 none [])), (3, (AV.val I h0))] [(1, (Ob.box S_BatBatch (AV.val S_BatBatch x0)))]
def h1_ay (x0 : Dm (.imm S_BatBatch)) (h0 : Dn I) (h1 : Dn I) : St := mkS [(1, (AV.ptr 1 none [])), (3, (AV.val I h0)), (4, (AV.val I h1))] [(1, (Ob.box S_BatBatch (AV.val S_BatBatch x0)))]
noncomputable def r_ay (x : In_ay) (k : Nat) (p : List Bool) (s : St) : Option Out_ay := rounds (X_ay g_aw p_aw g_ax p_ax) Tryz.f171 R_ay M_ay x k p s
variable {g_aw p_aw g_ax p_ax}
theorem ev_ay (k : Nat) (x0 : Dm (.imm S_BatBatch)) : E_ay g_aw p_aw g_ax p_ax k (x0, ()) =
  (r_ay g_aw p_aw g_ax p_ax (x0, ()) k pt0 (h0_ay x0 (1 : Int))) := by kernel_rfl
theorem rd0_ay (k : Nat) (x0 : Dm (.imm S_BatBatch)) (h0 : Dn I) : r_ay g_aw p_aw g_ax p_ax (x0, ()) (k + 1) pt0 (h0_ay x0 h0) =
  (bif (decide (h0 <= (5 : Int))) then (r_ay g_aw p_aw g_ax p_ax (x0, ()) k pt3 (h1_ay x0 h0 (0 : Int))) else (some (false, ()))) := by kernel_rfl
theorem rd1_ay (k : Nat) (x0 : Dm (.imm S_BatBatch)) (h0 : Dn I) (h1 : Dn I) : r_ay g_aw p_aw g_ax p_ax (x0, ()) (k + 1) pt3 (h1_ay x0 h0 h1) =
  (bif (decide (h1 < (List.length x0.2.2.2.2.1 : Int))) then (bif (bif (decide ((0 : Int) <= h1)) then (decide (h1 < (List.length x0.2.2.2.2.1 : Int))) else false) then (bif (decide ((rdL (e := S_BatSig) x0.2.2.2.2.1 h1).1 = h0)) then (bif (decide ((rdL (e := S_BatSig) x0.2.2.2.2.1 h1).2.1 = (2 : Int))) then (cl (p_aw (x0, ())) (g_aw (x0, ())) fun y0 => (bif (decide ((rdL (e := S_BatSig) x0.2.2.2.2.1 h1).2.2 = y0.1)) then (cl (p_ax (x0, ((3 : Int), (h0, ())))) (g_ax (x0, ((3 : Int), (h0, ())))) fun y1 => (bif (decide ((0 : Int) < y1.1)) then (some (true, ())) else (r_ay g_aw p_aw g_ax p_ax (x0, ()) k pt3 (h1_ay x0 h0 (w64 (h1 + (1 : Int))))))) else (r_ay g_aw p_aw g_ax p_ax (x0, ()) k pt3 (h1_ay x0 h0 (w64 (h1 + (1 : Int))))))) else (r_ay g_aw p_aw g_ax p_ax (x0, ()) k pt3 (h1_ay x0 h0 (w64 (h1 + (1 : Int)))))) else (r_ay g_aw p_aw g_ax p_ax (x0, ()) k pt3 (h1_ay x0 h0 (w64 (h1 + (1 : Int)))))) else none) else (r_ay g_aw p_aw g_ax p_ax (x0, ()) k pt0 (h0_ay x0 (w64 (h0 + (1 : Int)))))) := by kernel_rfl
theorem S_ay (h_aw : C_aw p_aw g_aw) (h_ax : C_ax p_ax g_ax) {pre : In_ay -> Bool} {fn : In_ay -> Out_ay} (hev : ∀ x, pre x = true -> ∃ k, E_ay g_aw p_aw g_ax p_ax k x = some (fn x)) : C_ay pre fn := sound tysOk mixed (fn := Tryz.f171) rfl rfl rfl (.cons h_aw (.cons h_ax .nil)) _ hev
end
/-! az: sl6Gate -/
abbrev M_az : List Vm.Mode := [.imm S_BatBatch]
abbrev R_az : List (RK × Sh) := [(.imm, .bool)]
abbrev In_az : Type := (insSh M_az).den
abbrev Out_az : Type := (outSh R_az M_az).den
abbrev C_az (pre : In_az -> Bool) (fn : In_az -> Out_az) : Prop := Sound Tryz.prog 106 ⟨M_az, R_az, pre, fn⟩
section
variable (g_ay : In_ay -> Out_ay) (p_ay : In_ay -> Bool)
abbrev X_az : Ctx := ctx tys 33 (conOf [(171, ⟨M_ay, R_ay, p_ay, g_ay⟩)]) (keepOf [(pt1, (⟨[(1, .asis), (4, .asis)], [(1, .asis)], []⟩ : Keep)), (pt0, (⟨[(1, .asis), (3, .asis)], [(1, .asis)], []⟩ : Keep))]) (fun _ => [])
noncomputable abbrev E_az (k : Nat) (x : In_az) : Option Out_az := evFn (X_az g_ay p_ay) Tryz.f106 R_az M_az k x
def h0_az (x0 : Dm (.imm S_BatBatch)) (h0 : Dn I) : St := mkS [(1, (AV.ptr 1 none [])), (3, (AV.val I h0))] [(1, (Ob.box S_BatBatch (AV.val S_BatBatch x0)))]
def h1_az (x0 : Dm (.imm S_BatBatch)) (h0 : Dn I) : St := mkS [(1, (AV.ptr 1 none [])), (4, (AV.val I h0))] [(1, (Ob.box S_BatBatch (AV.val S_BatBatch x0)))]
noncomputable def r_az (x : In_az) (k : Nat) (p : List Bool) (s : St) : Option Out_az := rounds (X_az g_ay p_ay) Tryz.f106 R_az M_az x k p s
variable {g_ay p_ay}
theorem ev_az (k : Nat) (x0 : Dm (.imm S_BatBatch)) : E_az g_ay p_ay k (x0, ()) =
  (r_az g_ay p_ay (x0, ()) k pt0 (h0_az x0 (0 : Int))) := by kernel_rfl
theorem rd0_az (k : Nat) (x0 : Dm (.imm S_BatBatch)) (h0 : Dn I) : r_az g_ay p_ay (x0, ()) (k + 1) pt0 (h0_az x0 h0) =
  (bif (decide (h0 < (List.length x0.2.2.1 : Int))) then (bif (bif (decide ((0 : Int) <= h0)) then (decide (h0 < (List.length x0.2.2.1 : Int))) else false) then (bif (bif (decide ((rdL (e := S_TstTest) x0.2.2.1 h0).2.1 = (3 : Int))) then false else true) then (some (false, ())) else (r_az g_ay p_ay (x0, ()) k pt0 (h0_az x0 (w64 (h0 + (1 : Int)))))) else none) else (r_az g_ay p_ay (x0, ()) k pt1 (h1_az x0 (0 : Int)))) := by kernel_rfl
theorem rd1_az (k : Nat) (x0 : Dm (.imm S_BatBatch)) (h0 : Dn I) : r_az g_ay p_ay (x0, ()) (k + 1) pt1 (h1_az x0 h0) =
  (bif (decide (h0 < (List.length x0.2.2.2.2.2 : Int))) then (bif (bif (decide ((0 : Int) <= h0)) then (decide (h0 < (List.length x0.2.2.2.2.2 : Int))) else false) then (bif (rdL (e := Sh.bool) x0.2.2.2.2.2 h0) then (some (false, ())) else (r_az g_ay p_ay (x0, ()) k pt1 (h1_az x0 (w64 (h0 + (1 : Int)))))) else none) else (cl (p_ay (x0, ())) (g_ay (x0, ())) fun y0 => (some (y0.1, ())))) := by kernel_rfl
theorem S_az (h_ay : C_ay p_ay g_ay) {pre : In_az -> Bool} {fn : In_az -> Out_az} (hev : ∀ x, pre x = true -> ∃ k, E_az g_ay p_ay k x = some (fn x)) : C_az pre fn := sound tysOk mixed (fn := Tryz.f106) rfl rfl rfl (.cons h_ay .nil) _ hev
end
/-! b0: sBatOk -/
abbrev M_b0 : List Vm.Mode := [.imm S_BatBatch]
abbrev R_b0 : List (RK × Sh) := [(.imm, .bool)]
abbrev In_b0 : Type := (insSh M_b0).den
abbrev Out_b0 : Type := (outSh R_b0 M_b0).den
abbrev C_b0 (pre : In_b0 -> Bool) (fn : In_b0 -> Out_b0) : Prop := Sound Tryz.prog 33 ⟨M_b0, R_b0, pre, fn⟩
section
variable (g_ah : In_ah -> Out_ah) (g_au : In_au -> Out_au) (g_az : In_az -> Out_az) (p_az : In_az -> Bool)
abbrev X_b0 : Ctx := ctx tys 121 (conOf [(66, ⟨M_ah, R_ah, fun _ => true, g_ah⟩), (107, ⟨M_au, R_au, fun _ => true, g_au⟩), (106, ⟨M_az, R_az, p_az, g_az⟩)]) (keepOf [(pt2, (⟨[(1, .asis), (4, .asis)], [(1, .asis)], []⟩ : Keep)), (pt1, (⟨[(1, .asis), (3, .asis)], [(1, .asis)], []⟩ : Keep))]) (fun _ => [])
noncomputable abbrev E_b0 (k : Nat) (x : In_b0) : Option Out_b0 := evFn (X_b0 g_ah g_au g_az p_az) Tryz.f33 R_b0 M_b0 k x
def h0_b0 (x0 : Dm (.imm S_BatBatch)) (h0 : Dn I) : St := mkS [(1, (AV.ptr 1 none [])), (3, (AV.val I h0))] [(1, (Ob.box S_BatBatch (AV.val S_BatBatch x0)))]
def h1_b0 (x0 : Dm (.imm S_BatBatch)) (h0 : Dn I) : St := mkS [(1, (AV.ptr 1 none [])), (4, (AV.val I h0))] [(1, (Ob.box S_BatBatch (AV.val S_BatBatch x0)))]
noncomputable def r_b0 (x : In_b0) (k : Nat) (p : List Bool) (s : St) : Option Out_b0 := rounds (X_b0 g_ah g_au g_az p_az) Tryz.f33 R_b0 M_b0 x k p s
variable {g_ah g_au g_az p_az}
theorem ev_b0 (k : Nat) (x0 : Dm (.imm S_BatBatch)) : E_b0 g_ah g_au g_az p_az k (x0, ()) =
  (bif (bif (g_ah (x0.1, ((0 : Int), ((5 : Int), ())))).1 then false else true) then (some (false, ())) else (bif (bif (g_ah (x0.2.1, ((1 : Int), ((10000 : Int), ())))).1 then false else true) then (some (false, ())) else (bif (bif (g_ah ((List.length x0.2.2.1 : Int), ((1 : Int), ((4 : Int), ())))).1 then false else true) then (some (false, ())) else (bif (bif (g_ah (x0.2.2.2.1, ((1 : Int), ((4 : Int), ())))).1 then false else true) then (some (false, ())) else (bif (decide ((6 : Int) < (List.length x0.2.2.2.2.1 : Int))) then (some (false, ())) else (bif (decide ((3 : Int) < (List.length x0.2.2.2.2.2 : Int))) then (some (false, ())) else (r_b0 g_ah g_au g_az p_az (x0, ()) k pt1 (h0_b0 x0 (0 : Int))))))))) := by kernel_rfl
theorem rd0_b0 (k : Nat) (x0 : Dm (.imm S_BatBatch)) (h0 : Dn I) : r_b0 g_ah g_au g_az p_az (x0, ()) (k + 1) pt1 (h0_b0 x0 h0) =
  (bif (decide (h0 < (List.length x0.2.2.1 : Int))) then (bif (bif (decide ((0 : Int) <= h0)) then (decide (h0 < (List.length x0.2.2.1 : Int))) else false) then (bif (bif (g_au ((rdL (e := S_TstTest) x0.2.2.1 h0), ())).1 then false else true) then (some (false, ())) else (bif (decide ((0 : Int) < h0)) then (bif (bif (decide ((0 : Int) <= (w64 (h0 - (1 : Int))))) then (decide ((w64 (h0 - (1 : Int))) < (List.length x0.2.2.1 : Int))) else false) then (bif (bif (decide ((0 : Int) <= h0)) then (decide (h0 < (List.length x0.2.2.1 : Int))) else false) then (bif (decide ((rdL (e := S_TstTest) x0.2.2.1 h0).1.1 <= (rdL (e := S_TstTest) x0.2.2.1 (w64 (h0 - (1 : Int)))).1.1)) then (some (false, ())) else (r_b0 g_ah g_au g_az p_az (x0, ()) k pt1 (h0_b0 x0 (w64 (h0 + (1 : Int)))))) else none) else none) else (r_b0 g_ah g_au g_az p_az (x0, ()) k pt1 (h0_b0 x0 (w64 (h0 + (1 : Int))))))) else none) else (r_b0 g_ah g_au g_az p_az (x0, ()) k pt2 (h1_b0 x0 (0 : Int)))) := by kernel_rfl
theorem rd1_b0 (k : Nat) (x0 : Dm (.imm S_BatBatch)) (h0 : Dn I) : r_b0 g_ah g_au g_az p_az (x0, ()) (k + 1) pt2 (h1_b0 x0 h0) =
  (bif (decide (h0 < (List.length x0.2.2.2.2.1 : Int))) then (bif (bif (decide ((0 : Int) <= h0)) then (decide (h0 < (List.length x0.2.2.2.2.1 : Int))) else false) then (bif (bif (g_ah ((rdL (e := S_BatSig) x0.2.2.2.2.1 h0).1, ((1 : Int), ((5 : Int), ())))).1 then false else true) then (some (false, ())) else (bif (bif (decide ((rdL (e := S_BatSig) x0.2.2.2.2.1 h0).2.1 = (2 : Int))) then false else true) then (bif (bif (decide ((rdL (e := S_BatSig) x0.2.2.2.2.1 h0).2.1 = (3 : Int))) then false else true) then (some (false, ())) else (bif (bif (g_ah ((rdL (e := S_BatSig) x0.2.2.2.2.1 h0).2.2, ((0 : Int), ((999982 : Int), ())))).1 then false else true) then (some (false, ())) else (r_b0 g_ah g_au g_az p_az (x0, ()) k pt2 (h1_b0 x0 (w64 (h0 + (1 : Int))))))) else (bif (bif (g_ah ((rdL (e := S_BatSig) x0.2.2.2.2.1 h0).2.2, ((0 : Int), ((999982 : Int), ())))).1 then false else true) then (some (false, ())) else (r_b0 g_ah g_au g_az p_az (x0, ()) k pt2 (h1_b0 x0 (w64 (h0 + (1 : Int)))))))) else none) else (bif (bif (decide (x0.2.2.2.1 = (2 : Int))) then false else true) then (bif (bif (decide (x0.2.2.2.1 = (4 : Int))) then false else true) then (some (true, ())) else (cl (p_az (x0, ())) (g_az (x0, ())) fun y0 => (some (y0.1, ())))) else (cl (p_az (x0, ())) (g_az (x0, ())) fun y1 => (some (y1.1, ()))))) := by kernel_rfl
theorem S_b0 (h_ah : C_ah (fun _ => true) g_ah) (h_au : C_au (fun _ => true) g_au) (h_az : C_az p_az g_az) {pre : In_b0 -> Bool} {fn : In_b0 -> Out_b0} (hev : ∀ x, pre x = true -> ∃ k, E_b0 g_ah g_au g_az p_az k x = some (fn x)) : C_b0 pre fn := sound tysOk mixed (fn := Tryz.f33) rfl rfl rfl (.cons h_ah (.cons h_au (.cons h_az .nil))) _ hev
end
/-! b1: sTstPut -/
abbrev M_b1 : List Vm.Mode := [.imm S_TstTest, .imm S_DecDec]
abbrev R_b1 : List (RK × Sh) := [(.own, S_TstTest), (.imm, .bool)]
abbrev In_b1 : Type := (insSh M_b1).den
abbrev Out_b1 : Type := (outSh R_b1 M_b1).den
abbrev C_b1 (pre : In_b1 -> Bool) (fn : In_b1 -> Out_b1) : Prop := Sound Tryz.prog 161 ⟨M_b1, R_b1, pre, fn⟩
section
variable (g_af : In_af -> Out_af) (p_af : In_af -> Bool) (g_au : In_au -> Out_au) (g_aj : In_aj -> Out_aj) (g_at : In_at -> Out_at) (p_at : In_at -> Bool)
abbrev X_b1 : Ctx := ctx tys 29 (conOf [(145, ⟨M_af, R_af, p_af, g_af⟩), (107, ⟨M_au, R_au, fun _ => true, g_au⟩), (140, ⟨M_aj, R_aj, fun _ => true, g_aj⟩), (174, ⟨M_at, R_at, p_at, g_at⟩)]) (keepOf []) (fun _ => [])
noncomputable abbrev E_b1 (k : Nat) (x : In_b1) : Option Out_b1 := evFn (X_b1 g_af p_af g_au g_aj g_at p_at) Tryz.f161 R_b1 M_b1 k x
variable {g_af p_af g_au g_aj g_at p_at}
theorem ev_b1 (k : Nat) (x0 : Dm (.imm S_TstTest)) (x1 : Dm (.imm S_DecDec)) : E_b1 g_af p_af g_au g_aj g_at p_at k (x0, x1, ()) =
  (cl (p_af (x0, ())) (g_af (x0, ())) fun y0 => (bif (bif (g_au (x0, ())).1 then false else true) then (some (y0.1, (false, ()))) else (bif (bif (g_aj (x1, ())).1 then false else true) then (some (y0.1, (false, ()))) else (bif (bif (decide (x0.2.1 = (0 : Int))) then false else true) then (some (y0.1, (false, ()))) else (cl (p_at ((y0.1.1, (y0.1.2.1, (x1, y0.1.2.2.2))), ())) (g_at ((y0.1.1, (y0.1.2.1, (x1, y0.1.2.2.2))), ())) fun y1 => (some ((y0.1.1, (y1.1, (x1, y0.1.2.2.2))), (true, ())))))))) := by kernel_rfl
theorem S_b1 (h_af : C_af p_af g_af) (h_au : C_au (fun _ => true) g_au) (h_aj : C_aj (fun _ => true) g_aj) (h_at : C_at p_at g_at) {pre : In_b1 -> Bool} {fn : In_b1 -> Out_b1} (hev : ∀ x, pre x = true -> ∃ k, E_b1 g_af p_af g_au g_aj g_at p_at k x = some (fn x)) : C_b1 pre fn := sound tysOk mixed (fn := Tryz.f161) rfl rfl rfl (.cons h_af (.cons h_au (.cons h_aj (.cons h_at .nil)))) _ hev
end
/-! b2: sTstCause -/
abbrev M_b2 : List Vm.Mode := [.imm S_TstTest, .imm I]
abbrev R_b2 : List (RK × Sh) := [(.own, S_TstTest), (.imm, .bool)]
abbrev In_b2 : Type := (insSh M_b2).den
abbrev Out_b2 : Type := (outSh R_b2 M_b2).den
abbrev C_b2 (pre : In_b2 -> Bool) (fn : In_b2 -> Out_b2) : Prop := Sound Tryz.prog 162 ⟨M_b2, R_b2, pre, fn⟩
section
variable (g_af : In_af -> Out_af) (p_af : In_af -> Bool) (g_au : In_au -> Out_au) (g_ah : In_ah -> Out_ah) (g_at : In_at -> Out_at) (p_at : In_at -> Bool)
abbrev X_b2 : Ctx := ctx tys 29 (conOf [(145, ⟨M_af, R_af, p_af, g_af⟩), (107, ⟨M_au, R_au, fun _ => true, g_au⟩), (66, ⟨M_ah, R_ah, fun _ => true, g_ah⟩), (174, ⟨M_at, R_at, p_at, g_at⟩)]) (keepOf []) (fun _ => [])
noncomputable abbrev E_b2 (k : Nat) (x : In_b2) : Option Out_b2 := evFn (X_b2 g_af p_af g_au g_ah g_at p_at) Tryz.f162 R_b2 M_b2 k x
variable {g_af p_af g_au g_ah g_at p_at}
theorem ev_b2 (k : Nat) (x0 : Dm (.imm S_TstTest)) (x1 : Dm (.imm I)) : E_b2 g_af p_af g_au g_ah g_at p_at k (x0, x1, ()) =
  (cl (p_af (x0, ())) (g_af (x0, ())) fun y0 => (bif (bif (g_au (x0, ())).1 then false else true) then (some (y0.1, (false, ()))) else (bif (bif (decide (x0.2.1 = (1 : Int))) then false else true) then (some (y0.1, (false, ()))) else (bif (bif (g_ah (x1, ((1 : Int), ((3 : Int), ())))).1 then false else true) then (some (y0.1, (false, ()))) else (cl (p_at ((y0.1.1, (y0.1.2.1, (y0.1.2.2.1, (x1, y0.1.2.2.2.2)))), ())) (g_at ((y0.1.1, (y0.1.2.1, (y0.1.2.2.1, (x1, y0.1.2.2.2.2)))), ())) fun y1 => (some ((y0.1.1, (y1.1, (y0.1.2.2.1, (x1, y0.1.2.2.2.2)))), (true, ())))))))) := by kernel_rfl
theorem S_b2 (h_af : C_af p_af g_af) (h_au : C_au (fun _ => true) g_au) (h_ah : C_ah (fun _ => true) g_ah) (h_at : C_at p_at g_at) {pre : In_b2 -> Bool} {fn : In_b2 -> Out_b2} (hev : ∀ x, pre x = true -> ∃ k, E_b2 g_af p_af g_au g_ah g_at p_at k x = some (fn x)) : C_b2 pre fn := sound tysOk mixed (fn := Tryz.f162) rfl rfl rfl (.cons h_af (.cons h_au (.cons h_ah (.cons h_at .nil)))) _ hev
end
/-! b3: sTstMore -/
abbrev M_b3 : List Vm.Mode := [.imm S_TstTest, .imm S_DecDec]
abbrev R_b3 : List (RK × Sh) := [(.own, S_TstTest), (.imm, .bool)]
abbrev In_b3 : Type := (insSh M_b3).den
abbrev Out_b3 : Type := (outSh R_b3 M_b3).den
abbrev C_b3 (pre : In_b3 -> Bool) (fn : In_b3 -> Out_b3) : Prop := Sound Tryz.prog 163 ⟨M_b3, R_b3, pre, fn⟩
section
variable (g_af : In_af -> Out_af) (p_af : In_af -> Bool) (g_au : In_au -> Out_au) (g_aj : In_aj -> Out_aj) (g_at : In_at -> Out_at) (p_at : In_at -> Bool)
abbrev X_b3 : Ctx := ctx tys 33 (conOf [(145, ⟨M_af, R_af, p_af, g_af⟩), (107, ⟨M_au, R_au, fun _ => true, g_au⟩), (140, ⟨M_aj, R_aj, fun _ => true, g_aj⟩), (174, ⟨M_at, R_at, p_at, g_at⟩)]) (keepOf []) (fun _ => [])
noncomputable abbrev E_b3 (k : Nat) (x : In_b3) : Option Out_b3 := evFn (X_b3 g_af p_af g_au g_aj g_at p_at) Tryz.f163 R_b3 M_b3 k x
variable {g_af p_af g_au g_aj g_at p_at}
theorem ev_b3 (k : Nat) (x0 : Dm (.imm S_TstTest)) (x1 : Dm (.imm S_DecDec)) : E_b3 g_af p_af g_au g_aj g_at p_at k (x0, x1, ()) =
  (cl (p_af (x0, ())) (g_af (x0, ())) fun y0 => (bif (bif (g_au (x0, ())).1 then false else true) then (some (y0.1, (false, ()))) else (bif (bif (decide (x0.2.1 = (2 : Int))) then false else true) then (some (y0.1, (false, ()))) else (bif (bif (g_aj (x1, ())).1 then false else true) then (some (y0.1, (false, ()))) else (bif (fitL y0.1.2.2.2.2 [x1]) then (cl (p_at ((y0.1.1, (y0.1.2.1, (y0.1.2.2.1, (y0.1.2.2.2.1, (List.append y0.1.2.2.2.2 [x1]))))), ())) (g_at ((y0.1.1, (y0.1.2.1, (y0.1.2.2.1, (y0.1.2.2.2.1, (List.append y0.1.2.2.2.2 [x1]))))), ())) fun y1 => (some ((y0.1.1, (y1.1, (y0.1.2.2.1, (y0.1.2.2.2.1, (List.append y0.1.2.2.2.2 [x1]))))), (true, ())))) else none))))) := by kernel_rfl
theorem S_b3 (h_af : C_af p_af g_af) (h_au : C_au (fun _ => true) g_au) (h_aj : C_aj (fun _ => true) g_aj) (h_at : C_at p_at g_at) {pre : In_b3 -> Bool} {fn : In_b3 -> Out_b3} (hev : ∀ x, pre x = true -> ∃ k, E_b3 g_af p_af g_au g_aj g_at p_at k x = some (fn x)) : C_b3 pre fn := sound tysOk mixed (fn := Tryz.f163) rfl rfl rfl (.cons h_af (.cons h_au (.cons h_aj (.cons h_at .nil)))) _ hev
end
/-! b4: sl6Turn -/
abbrev M_b4 : List Vm.Mode := [.imm S_TstTest, .imm I, .imm S_DecDec, .imm I]
abbrev R_b4 : List (RK × Sh) := [(.own, S_TstTest), (.imm, .bool)]
abbrev In_b4 : Type := (insSh M_b4).den
abbrev Out_b4 : Type := (outSh R_b4 M_b4).den
abbrev C_b4 (pre : In_b4 -> Bool) (fn : In_b4 -> Out_b4) : Prop := Sound Tryz.prog 99 ⟨M_b4, R_b4, pre, fn⟩
section
variable (g_b1 : In_b1 -> Out_b1) (p_b1 : In_b1 -> Bool) (g_b2 : In_b2 -> Out_b2) (p_b2 : In_b2 -> Bool) (g_b3 : In_b3 -> Out_b3) (p_b3 : In_b3 -> Bool) (g_af : In_af -> Out_af) (p_af : In_af -> Bool)
abbrev X_b4 : Ctx := ctx tys 34 (conOf [(161, ⟨M_b1, R_b1, p_b1, g_b1⟩), (162, ⟨M_b2, R_b2, p_b2, g_b2⟩), (163, ⟨M_b3, R_b3, p_b3, g_b3⟩), (145, ⟨M_af, R_af, p_af, g_af⟩)]) (keepOf []) (fun _ => [])
noncomputable abbrev E_b4 (k : Nat) (x : In_b4) : Option Out_b4 := evFn (X_b4 g_b1 p_b1 g_b2 p_b2 g_b3 p_b3 g_af p_af) Tryz.f99 R_b4 M_b4 k x
variable {g_b1 p_b1 g_b2 p_b2 g_b3 p_b3 g_af p_af}
theorem ev_b4 (k : Nat) (x0 : Dm (.imm S_TstTest)) (x1 : Dm (.imm I)) (x2 : Dm (.imm S_DecDec)) (x3 : Dm (.imm I)) : E_b4 g_b1 p_b1 g_b2 p_b2 g_b3 p_b3 g_af p_af k (x0, x1, x2, x3, ()) =
  (bif (decide (x1 = (1 : Int))) then (cl (p_b1 (x0, (x2, ()))) (g_b1 (x0, (x2, ()))) fun y0 => (some (y0.1, (y0.2.1, ())))) else (bif (decide (x1 = (2 : Int))) then (cl (p_b2 (x0, (x3, ()))) (g_b2 (x0, (x3, ()))) fun y1 => (some (y1.1, (y1.2.1, ())))) else (bif (decide (x1 = (3 : Int))) then (cl (p_b3 (x0, (x2, ()))) (g_b3 (x0, (x2, ()))) fun y2 => (some (y2.1, (y2.2.1, ())))) else (cl (p_af (x0, ())) (g_af (x0, ())) fun y3 => (some (y3.1, (false, ()))))))) := by kernel_rfl
theorem S_b4 (h_b1 : C_b1 p_b1 g_b1) (h_b2 : C_b2 p_b2 g_b2) (h_b3 : C_b3 p_b3 g_b3) (h_af : C_af p_af g_af) {pre : In_b4 -> Bool} {fn : In_b4 -> Out_b4} (hev : ∀ x, pre x = true -> ∃ k, E_b4 g_b1 p_b1 g_b2 p_b2 g_b3 p_b3 g_af p_af k x = some (fn x)) : C_b4 pre fn := sound tysOk mixed (fn := Tryz.f99) rfl rfl rfl (.cons h_b1 (.cons h_b2 (.cons h_b3 (.cons h_af .nil)))) _ hev
end
/-! b5: sBatTest -/
abbrev M_b5 : List Vm.Mode := [.imm S_BatBatch, .imm I, .imm I, .imm S_DecDec, .imm I]
abbrev R_b5 : List (RK × Sh) := [(.own, S_BatBatch), (.imm, .bool)]
abbrev In_b5 : Type := (insSh M_b5).den
abbrev Out_b5 : Type := (outSh R_b5 M_b5).den
abbrev C_b5 (pre : In_b5 -> Bool) (fn : In_b5 -> Out_b5) : Prop := Sound Tryz.prog 27 ⟨M_b5, R_b5, pre, fn⟩
section
variable (g_ag : In_ag -> Out_ag) (p_ag : In_ag -> Bool) (g_b0 : In_b0 -> Out_b0) (p_b0 : In_b0 -> Bool) (g_b4 : In_b4 -> Out_b4) (p_b4 : In_b4 -> Bool)
abbrev X_b5 : Ctx := ctx tys 63 (conOf [(65, ⟨M_ag, R_ag, p_ag, g_ag⟩), (33, ⟨M_b0, R_b0, p_b0, g_b0⟩), (99, ⟨M_b4, R_b4, p_b4, g_b4⟩)]) (keepOf [(pt2, (⟨[(1, .asis), (2, .asis), (4, .asis), (5, .asis), (8, .asis), (10, .asis), (12, .asis), (13, .asis)], [(5, .asis), (8, .asis), (10, (.pair .asis (.pair .asis (.pair .own (.pair .asis (.pair .own .own)))))), (12, (.pair .asis (.pair .asis (.pair .own (.pair .asis (.pair .own .own))))))], []⟩ : Keep))]) (fun _ => [])
noncomputable abbrev E_b5 (k : Nat) (x : In_b5) : Option Out_b5 := evFn (X_b5 g_ag p_ag g_b0 p_b0 g_b4 p_b4) Tryz.f27 R_b5 M_b5 k x
def h0_b5 (x0 : Dm (.imm S_BatBatch)) (x1 : Dm (.imm I)) (x2 : Dm (.imm I)) (x3 : Dm (.imm S_DecDec)) (x4 : Dm (.imm I)) (h0 : Dn I) (h1 : Dn I) (h2 : Dn I) (h3 : Dn I) (h4 : (List (Dn S_TstTest))) (h5 : (List (Dn S_BatSig))) (h6 : (List (Dn Sh.bool))) (h7 : Dn I) (h8 : Dn I) (h9 : Dn I) (h10 : (List (Dn S_TstTest))) (h11 : (List (Dn S_BatSig))) (h12 : (List (Dn Sh.bool))) : St := mkS [(1, (AV.val I x1)), (2, (AV.val I x2)), (4, (AV.val I x4)), (5, (AV.ptr 5 none [])), (8, (AV.ptr 8 none [])), (10, (AV.ptr 10 none [])), (12, (AV.ptr 12 none [])), (13, (AV.val I h0))] [(5, (Ob.box S_BatBatch (AV.val S_BatBatch x0))), (8, (Ob.box S_DecDec (AV.val S_DecDec x3))), (10, (Ob.box S_BatBatch (AV.pair (AV.val I h1) (AV.pair (AV.val I h2) (AV.pair (AV.sref 2510 none []) (AV.pair (AV.val I h3) (AV.pair (AV.sref 12510 none []) (AV.sref 22510 none [])))))))), (2510, (Ob.arr 66 S_TstTest h4)), (12510, (Ob.arr 68 S_BatSig h5)), (22510, (Ob.arr 4 Sh.bool h6)), (12, (Ob.box S_BatBatch (AV.pair (AV.val I h7) (AV.pair (AV.val I h8) (AV.pair (AV.sref 2512 none []) (AV.pair (AV.val I h9) (AV.pair (AV.sref 12512 none []) (AV.sref 22512 none [])))))))), (2512, (Ob.arr 66 S_TstTest h10)), (12512, (Ob.arr 68 S_BatSig h11)), (22512, (Ob.arr 4 Sh.bool h12))]
noncomputable def r_b5 (x : In_b5) (k : Nat) (p : List Bool) (s : St) : Option Out_b5 := rounds (X_b5 g_ag p_ag g_b0 p_b0 g_b4 p_b4) Tryz.f27 R_b5 M_b5 x k p s
variable {g_ag p_ag g_b0 p_b0 g_b4 p_b4}
theorem ev_b5 (k : Nat) (x0 : Dm (.imm S_BatBatch)) (x1 : Dm (.imm I)) (x2 : Dm (.imm I)) (x3 : Dm (.imm S_DecDec)) (x4 : Dm (.imm I)) : E_b5 g_ag p_ag g_b0 p_b0 g_b4 p_b4 k (x0, x1, x2, x3, x4, ()) =
  (cl (p_ag (x0, ())) (g_ag (x0, ())) fun y0 => (cl (p_b0 (x0, ())) (g_b0 (x0, ())) fun y1 => (bif (bif y1.1 then false else true) then (some (y0.1, (false, ()))) else (bif (bif (decide (x0.2.2.2.1 = (1 : Int))) then false else true) then (some (y0.1, (false, ()))) else (r_b5 g_ag p_ag g_b0 p_b0 g_b4 p_b4 (x0, x1, x2, x3, x4, ()) k pt2 (h0_b5 x0 x1 x2 x3 x4 (0 : Int) (0 : Int) (0 : Int) (0 : Int) [] [] [] (y0.1.1) (y0.1.2.1) (y0.1.2.2.2.1) (y0.1.2.2.1) (y0.1.2.2.2.2.1) (y0.1.2.2.2.2.2))))))) := by kernel_rfl
theorem rd0_b5 (k : Nat) (x0 : Dm (.imm S_BatBatch)) (x1 : Dm (.imm I)) (x2 : Dm (.imm I)) (x3 : Dm (.imm S_DecDec)) (x4 : Dm (.imm I)) (h0 : Dn I) (h1 : Dn I) (h2 : Dn I) (h3 : Dn I) (h4 : (List (Dn S_TstTest))) (h5 : (List (Dn S_BatSig))) (h6 : (List (Dn Sh.bool))) (h7 : Dn I) (h8 : Dn I) (h9 : Dn I) (h10 : (List (Dn S_TstTest))) (h11 : (List (Dn S_BatSig))) (h12 : (List (Dn Sh.bool))) : r_b5 g_ag p_ag g_b0 p_b0 g_b4 p_b4 (x0, x1, x2, x3, x4, ()) (k + 1) pt2 (h0_b5 x0 x1 x2 x3 x4 h0 h1 h2 h3 h4 h5 h6 h7 h8 h9 h10 h11 h12) =
  (bif (decide (h0 < (List.length x0.2.2.1 : Int))) then (bif (bif (decide ((0 : Int) <= h0)) then (decide (h0 < (List.length x0.2.2.1 : Int))) else false) then (bif (decide ((rdL (e := S_TstTest) x0.2.2.1 h0).1.1 = x1)) then (bif (bif (decide ((0 : Int) <= h0)) then (decide (h0 < (List.length x0.2.2.1 : Int))) else false) then (cl (p_b4 ((rdL (e := S_TstTest) x0.2.2.1 h0), (x2, (x3, (x4, ()))))) (g_b4 ((rdL (e := S_TstTest) x0.2.2.1 h0), (x2, (x3, (x4, ()))))) fun y0 => (bif (bif (decide ((0 : Int) <= h0)) then (decide (h0 < (List.length h10 : Int))) else false) then (some ((h7, (h8, ((List.set h10 (Int.toNat h0) y0.1), (h9, (h11, h12))))), (y0.2.1, ()))) else none)) else none) else (r_b5 g_ag p_ag g_b0 p_b0 g_b4 p_b4 (x0, x1, x2, x3, x4, ()) k pt2 (h0_b5 x0 x1 x2 x3 x4 (w64 (h0 + (1 : Int))) h1 h2 h3 h4 h5 h6 h7 h8 h9 h10 h11 h12))) else none) else (some ((h7, (h8, (h10, (h9, (h11, h12))))), (false, ())))) := by kernel_rfl
theorem S_b5 (h_ag : C_ag p_ag g_ag) (h_b0 : C_b0 p_b0 g_b0) (h_b4 : C_b4 p_b4 g_b4) {pre : In_b5 -> Bool} {fn : In_b5 -> Out_b5} (hev : ∀ x, pre x = true -> ∃ k, E_b5 g_ag p_ag g_b0 p_b0 g_b4 p_b4 k x = some (fn x)) : C_b5 pre fn := sound tysOk mixed (fn := Tryz.f27) rfl rfl rfl (.cons h_ag (.cons h_b0 (.cons h_b4 .nil))) _ hev
end
/-! b6: gClone_DecDec -/
abbrev M_b6 : List Vm.Mode := [.imm L_DecDec]
abbrev R_b6 : List (RK × Sh) := [(.own, L_DecDec)]
abbrev In_b6 : Type := (insSh M_b6).den
abbrev Out_b6 : Type := (outSh R_b6 M_b6).den
abbrev C_b6 (pre : In_b6 -> Bool) (fn : In_b6 -> Out_b6) : Prop := Sound Tryz.prog 238 ⟨M_b6, R_b6, pre, fn⟩
abbrev X_b6 : Ctx := ctx tys 8 (conOf []) (keepOf []) (fun _ => [])
noncomputable abbrev E_b6 (k : Nat) (x : In_b6) : Option Out_b6 := evFn X_b6 Tryz.f238 R_b6 M_b6 k x
theorem ev_b6 (k : Nat) (x0 : Dm (.imm L_DecDec)) : E_b6 k (x0, ()) =
  (bif (List.isEmpty x0) then (agree (some ([], ())) (bif (fitL [] x0) then (some ((List.append [] x0), ())) else none)) else (bif (fitL [] x0) then (some ((List.append [] x0), ())) else none)) := by kernel_rfl
theorem S_b6  {pre : In_b6 -> Bool} {fn : In_b6 -> Out_b6} (hev : ∀ x, pre x = true -> ∃ k, E_b6 k x = some (fn x)) : C_b6 pre fn := sound tysOk mixed (fn := Tryz.f238) rfl rfl rfl ConsOk.nil _ hev
/-! b7: iTstTest_copied -/
abbrev M_b7 : List Vm.Mode := [.imm S_TstTest]
abbrev R_b7 : List (RK × Sh) := [(.own, S_TstTest)]
abbrev In_b7 : Type := (insSh M_b7).den
abbrev Out_b7 : Type := (outSh R_b7 M_b7).den
abbrev C_b7 (pre : In_b7 -> Bool) (fn : In_b7 -> Out_b7) : Prop := Sound Tryz.prog 183 ⟨M_b7, R_b7, pre, fn⟩
section
variable (g_b6 : In_b6 -> Out_b6) (p_b6 : In_b6 -> Bool)
abbrev X_b7 : Ctx := ctx tys 8 (conOf [(238, ⟨M_b6, R_b6, p_b6, g_b6⟩)]) (keepOf []) (fun _ => [])
noncomputable abbrev E_b7 (k : Nat) (x : In_b7) : Option Out_b7 := evFn (X_b7 g_b6 p_b6) Tryz.f183 R_b7 M_b7 k x
variable {g_b6 p_b6}
theorem ev_b7 (k : Nat) (x0 : Dm (.imm S_TstTest)) : E_b7 g_b6 p_b6 k (x0, ()) =
  (cl (p_b6 (x0.2.2.2.2, ())) (g_b6 (x0.2.2.2.2, ())) fun y0 => (some ((x0.1, (x0.2.1, (x0.2.2.1, (x0.2.2.2.1, y0.1)))), ()))) := by kernel_rfl
theorem S_b7 (h_b6 : C_b6 p_b6 g_b6) {pre : In_b7 -> Bool} {fn : In_b7 -> Out_b7} (hev : ∀ x, pre x = true -> ∃ k, E_b7 g_b6 p_b6 k x = some (fn x)) : C_b7 pre fn := sound tysOk mixed (fn := Tryz.f183) rfl rfl rfl (.cons h_b6 .nil) _ hev
end
/-! b8: gClone_BatSig -/
abbrev M_b8 : List Vm.Mode := [.imm L_BatSig]
abbrev R_b8 : List (RK × Sh) := [(.own, L_BatSig)]
abbrev In_b8 : Type := (insSh M_b8).den
abbrev Out_b8 : Type := (outSh R_b8 M_b8).den
abbrev C_b8 (pre : In_b8 -> Bool) (fn : In_b8 -> Out_b8) : Prop := Sound Tryz.prog 184 ⟨M_b8, R_b8, pre, fn⟩
abbrev X_b8 : Ctx := ctx tys 8 (conOf []) (keepOf []) (fun _ => [])
noncomputable abbrev E_b8 (k : Nat) (x : In_b8) : Option Out_b8 := evFn X_b8 Tryz.f184 R_b8 M_b8 k x
theorem ev_b8 (k : Nat) (x0 : Dm (.imm L_BatSig)) : E_b8 k (x0, ()) =
  (bif (List.isEmpty x0) then (agree (some ([], ())) (bif (fitL [] x0) then (some ((List.append [] x0), ())) else none)) else (bif (fitL [] x0) then (some ((List.append [] x0), ())) else none)) := by kernel_rfl
theorem S_b8  {pre : In_b8 -> Bool} {fn : In_b8 -> Out_b8} (hev : ∀ x, pre x = true -> ∃ k, E_b8 k x = some (fn x)) : C_b8 pre fn := sound tysOk mixed (fn := Tryz.f184) rfl rfl rfl ConsOk.nil _ hev
/-! b9: gClone_bool -/
abbrev M_b9 : List Vm.Mode := [.imm L_bool]
abbrev R_b9 : List (RK × Sh) := [(.own, L_bool)]
abbrev In_b9 : Type := (insSh M_b9).den
abbrev Out_b9 : Type := (outSh R_b9 M_b9).den
abbrev C_b9 (pre : In_b9 -> Bool) (fn : In_b9 -> Out_b9) : Prop := Sound Tryz.prog 185 ⟨M_b9, R_b9, pre, fn⟩
abbrev X_b9 : Ctx := ctx tys 8 (conOf []) (keepOf []) (fun _ => [])
noncomputable abbrev E_b9 (k : Nat) (x : In_b9) : Option Out_b9 := evFn X_b9 Tryz.f185 R_b9 M_b9 k x
theorem ev_b9 (k : Nat) (x0 : Dm (.imm L_bool)) : E_b9 k (x0, ()) =
  (bif (List.isEmpty x0) then (agree (some ([], ())) (bif (fitL [] x0) then (some ((List.append [] x0), ())) else none)) else (bif (fitL [] x0) then (some ((List.append [] x0), ())) else none)) := by kernel_rfl
theorem S_b9  {pre : In_b9 -> Bool} {fn : In_b9 -> Out_b9} (hev : ∀ x, pre x = true -> ∃ k, E_b9 k x = some (fn x)) : C_b9 pre fn := sound tysOk mixed (fn := Tryz.f185) rfl rfl rfl ConsOk.nil _ hev
/-! ba: iBatBatch_copied -/
abbrev M_ba : List Vm.Mode := [.imm S_BatBatch]
abbrev R_ba : List (RK × Sh) := [(.own, S_BatBatch)]
abbrev In_ba : Type := (insSh M_ba).den
abbrev Out_ba : Type := (outSh R_ba M_ba).den
abbrev C_ba (pre : In_ba -> Bool) (fn : In_ba -> Out_ba) : Prop := Sound Tryz.prog 115 ⟨M_ba, R_ba, pre, fn⟩
section
variable (g_b7 : In_b7 -> Out_b7) (p_b7 : In_b7 -> Bool) (g_b8 : In_b8 -> Out_b8) (p_b8 : In_b8 -> Bool) (g_b9 : In_b9 -> Out_b9) (p_b9 : In_b9 -> Bool)
abbrev X_ba : Ctx := ctx tys 30 (conOf [(183, ⟨M_b7, R_b7, p_b7, g_b7⟩), (184, ⟨M_b8, R_b8, p_b8, g_b8⟩), (185, ⟨M_b9, R_b9, p_b9, g_b9⟩)]) (keepOf [(pt1, (⟨[(1, .asis), (2, .asis), (3, .own), (7, .asis), (8, .asis), (9, .asis)], [(1, .asis), (2, (.pair .asis (.pair .asis (.pair .own (.pair .asis (.pair .own .own))))))], []⟩ : Keep))]) (fun _ => [])
noncomputable abbrev E_ba (k : Nat) (x : In_ba) : Option Out_ba := evFn (X_ba g_b7 p_b7 g_b8 p_b8 g_b9 p_b9) Tryz.f115 R_ba M_ba k x
def h0_ba (x0 : Dm (.imm S_BatBatch)) (h0 : Dn I) (h1 : Dn I) (h2 : Dn I) (h3 : Dn I) (h4 : Dn I) (h5 : (List (Dn S_TstTest))) (h6 : (List (Dn S_BatSig))) (h7 : (List (Dn Sh.bool))) (h8 : (List (Dn S_TstTest))) : St := mkS [(1, (AV.ptr 1 none [])), (2, (AV.ptr 2 none [])), (3, (AV.sref 2503 none [])), (7, (AV.val L_TstTest x0.2.2.1)), (8, (AV.val I h0)), (9, (AV.val I h1))] [(1, (Ob.box S_BatBatch (AV.val S_BatBatch x0))), (2, (Ob.box S_BatBatch (AV.pair (AV.val I h2) (AV.pair (AV.val I h3) (AV.pair (AV.sref 2502 none []) (AV.pair (AV.val I h4) (AV.pair (AV.sref 12502 none []) (AV.sref 22502 none [])))))))), (2502, (Ob.arr 66 S_TstTest h5)), (12502, (Ob.arr 68 S_BatSig h6)), (22502, (Ob.arr 4 Sh.bool h7)), (2503, (Ob.arr 66 S_TstTest h8))]
noncomputable def r_ba (x : In_ba) (k : Nat) (p : List Bool) (s : St) : Option Out_ba := rounds (X_ba g_b7 p_b7 g_b8 p_b8 g_b9 p_b9) Tryz.f115 R_ba M_ba x k p s
variable {g_b7 p_b7 g_b8 p_b8 g_b9 p_b9}
theorem ev_ba (k : Nat) (x0 : Dm (.imm S_BatBatch)) : E_ba g_b7 p_b7 g_b8 p_b8 g_b9 p_b9 k (x0, ()) =
  (r_ba g_b7 p_b7 g_b8 p_b8 g_b9 p_b9 (x0, ()) k pt1 (h0_ba x0 (List.length x0.2.2.1 : Int) (0 : Int) (0 : Int) (0 : Int) (0 : Int) [] [] [] [])) := by kernel_rfl
theorem rd0_ba (k : Nat) (x0 : Dm (.imm S_BatBatch)) (h0 : Dn I) (h1 : Dn I) (h2 : Dn I) (h3 : Dn I) (h4 : Dn I) (h5 : (List (Dn S_TstTest))) (h6 : (List (Dn S_BatSig))) (h7 : (List (Dn Sh.bool))) (h8 : (List (Dn S_TstTest))) : r_ba g_b7 p_b7 g_b8 p_b8 g_b9 p_b9 (x0, ()) (k + 1) pt1 (h0_ba x0 h0 h1 h2 h3 h4 h5 h6 h7 h8) =
  (bif (decide (h1 < h0)) then (bif (bif (decide ((0 : Int) <= h1)) then (decide (h1 < (List.length x0.2.2.1 : Int))) else false) then (cl (p_b7 ((rdL (e := S_TstTest) x0.2.2.1 h1), ())) (g_b7 ((rdL (e := S_TstTest) x0.2.2.1 h1), ())) fun y0 => (bif (fitL h8 [(y0.1)]) then (r_ba g_b7 p_b7 g_b8 p_b8 g_b9 p_b9 (x0, ()) k pt1 (h0_ba x0 h0 (w64 (h1 + (1 : Int))) h2 h3 h4 h5 h6 h7 (List.append h8 [(y0.1)]))) else none)) else none) else (cl (p_b8 (x0.2.2.2.2.1, ())) (g_b8 (x0.2.2.2.2.1, ())) fun y1 => (cl (p_b9 (x0.2.2.2.2.2, ())) (g_b9 (x0.2.2.2.2.2, ())) fun y2 => (some ((x0.1, (x0.2.1, (h8, (x0.2.2.2.1, (y1.1, y2.1))))), ()))))) := by kernel_rfl
theorem S_ba (h_b7 : C_b7 p_b7 g_b7) (h_b8 : C_b8 p_b8 g_b8) (h_b9 : C_b9 p_b9 g_b9) {pre : In_ba -> Bool} {fn : In_ba -> Out_ba} (hev : ∀ x, pre x = true -> ∃ k, E_ba g_b7 p_b7 g_b8 p_b8 g_b9 p_b9 k x = some (fn x)) : C_ba pre fn := sound tysOk mixed (fn := Tryz.f115) rfl rfl rfl (.cons h_b7 (.cons h_b8 (.cons h_b9 .nil))) _ hev
end
/-! iin -/
abbrev M_iin : List Vm.Mode := [.imm I, .imm I, .imm I]
abbrev R_iin : List (RK × Sh) := [(.imm, .bool)]
abbrev In_iin : Type := (insSh M_iin).den
abbrev Out_iin : Type := (outSh R_iin M_iin).den
abbrev C_iin (pre : In_iin -> Bool) (fn : In_iin -> Out_iin) : Prop := Sound Tryz.prog 72 ⟨M_iin, R_iin, pre, fn⟩
abbrev X_iin : Ctx := ctx tys 15 (conOf []) (keepOf []) (fun _ => [])
noncomputable abbrev E_iin (k : Nat) (x : In_iin) : Option Out_iin := evFn X_iin Tryz.f72 R_iin M_iin k x
theorem ev_iin (k : Nat) (x0 : Dm (.imm I)) (x1 : Dm (.imm I)) (x2 : Dm (.imm I)) : E_iin k (x0, x1, x2, ()) =
  (bif (decide (x1 <= x0)) then (some ((decide (x0 <= x2)), ())) else (some (false, ()))) := by kernel_rfl
theorem S_iin  {pre : In_iin -> Bool} {fn : In_iin -> Out_iin} (hev : ∀ x, pre x = true -> ∃ k, E_iin k x = some (fn x)) : C_iin pre fn := sound tysOk mixed (fn := Tryz.f72) rfl rfl rfl ConsOk.nil _ hev
/-! bb: iisTest -/
abbrev M_bb : List Vm.Mode := [.imm I]
abbrev R_bb : List (RK × Sh) := [(.imm, .bool)]
abbrev In_bb : Type := (insSh M_bb).den
abbrev Out_bb : Type := (outSh R_bb M_bb).den
abbrev C_bb (pre : In_bb -> Bool) (fn : In_bb -> Out_bb) : Prop := Sound Tryz.prog 197 ⟨M_bb, R_bb, pre, fn⟩
section
variable (g_iin : In_iin -> Out_iin)
abbrev X_bb : Ctx := ctx tys 5 (conOf [(72, ⟨M_iin, R_iin, fun _ => true, g_iin⟩)]) (keepOf []) (fun _ => [])
noncomputable abbrev E_bb (k : Nat) (x : In_bb) : Option Out_bb := evFn (X_bb g_iin) Tryz.f197 R_bb M_bb k x
variable {g_iin}
theorem ev_bb (k : Nat) (x0 : Dm (.imm I)) : E_bb g_iin k (x0, ()) =
  (some ((g_iin (x0, ((1 : Int), ((4 : Int), ())))).1, ())) := by kernel_rfl
theorem S_bb (h_iin : C_iin (fun _ => true) g_iin) {pre : In_bb -> Bool} {fn : In_bb -> Out_bb} (hev : ∀ x, pre x = true -> ∃ k, E_bb g_iin k x = some (fn x)) : C_bb pre fn := sound tysOk mixed (fn := Tryz.f197) rfl rfl rfl (.cons h_iin .nil) _ hev
end
/-! bc: ipower -/
abbrev M_bc : List Vm.Mode := [.imm I]
abbrev R_bc : List (RK × Sh) := [(.imm, I)]
abbrev In_bc : Type := (insSh M_bc).den
abbrev Out_bc : Type := (outSh R_bc M_bc).den
abbrev C_bc (pre : In_bc -> Bool) (fn : In_bc -> Out_bc) : Prop := Sound Tryz.prog 189 ⟨M_bc, R_bc, pre, fn⟩
abbrev X_bc : Ctx := ctx tys 11 (conOf []) (keepOf [(pt1, (⟨[(3, .asis), (4, .asis), (5, .asis)], [], []⟩ : Keep))]) (fun _ => [])
noncomputable abbrev E_bc (k : Nat) (x : In_bc) : Option Out_bc := evFn X_bc Tryz.f189 R_bc M_bc k x
def h0_bc (x0 : Dm (.imm I)) (h0 : Dn I) (h1 : Dn I) : St := mkS [(3, (AV.val I h0)), (4, (AV.val I x0)), (5, (AV.val I h1))] []
noncomputable def r_bc (x : In_bc) (k : Nat) (p : List Bool) (s : St) : Option Out_bc := rounds X_bc Tryz.f189 R_bc M_bc x k p s
theorem ev_bc (k : Nat) (x0 : Dm (.imm I)) : E_bc k (x0, ()) =
  (r_bc  (x0, ()) k pt1 (h0_bc x0 (1 : Int) (0 : Int))) := by kernel_rfl
theorem rd0_bc (k : Nat) (x0 : Dm (.imm I)) (h0 : Dn I) (h1 : Dn I) : r_bc  (x0, ()) (k + 1) pt1 (h0_bc x0 h0 h1) =
  (bif (decide (h1 < x0)) then (r_bc  (x0, ()) k pt1 (h0_bc x0 (w64 (h0 * (10 : Int))) (w64 (h1 + (1 : Int))))) else (some (h0, ()))) := by kernel_rfl
theorem S_bc  {pre : In_bc -> Bool} {fn : In_bc -> Out_bc} (hev : ∀ x, pre x = true -> ∃ k, E_bc k x = some (fn x)) : C_bc pre fn := sound tysOk mixed (fn := Tryz.f189) rfl rfl rfl ConsOk.nil _ hev
/-! bd: iDecOk -/
abbrev M_bd : List Vm.Mode := [.imm S_DecDec]
abbrev R_bd : List (RK × Sh) := [(.imm, .bool)]
abbrev In_bd : Type := (insSh M_bd).den
abbrev Out_bd : Type := (outSh R_bd M_bd).den
abbrev C_bd (pre : In_bd -> Bool) (fn : In_bd -> Out_bd) : Prop := Sound Tryz.prog 124 ⟨M_bd, R_bd, pre, fn⟩
section
variable (g_iin : In_iin -> Out_iin) (g_bc : In_bc -> Out_bc) (p_bc : In_bc -> Bool)
abbrev X_bd : Ctx := ctx tys 19 (conOf [(72, ⟨M_iin, R_iin, fun _ => true, g_iin⟩), (189, ⟨M_bc, R_bc, p_bc, g_bc⟩)]) (keepOf []) (fun _ => [])
noncomputable abbrev E_bd (k : Nat) (x : In_bd) : Option Out_bd := evFn (X_bd g_iin g_bc p_bc) Tryz.f124 R_bd M_bd k x
variable {g_iin g_bc p_bc}
theorem ev_bd (k : Nat) (x0 : Dm (.imm S_DecDec)) : E_bd g_iin g_bc p_bc k (x0, ()) =
  (bif (g_iin (x0.2, ((0 : Int), ((3 : Int), ())))).1 then (bif (p_bc (x0.2, ())) then (bif (p_bc (x0.2, ())) then (some ((g_iin (x0.1, ((w64 ((-9999 : Int) * (g_bc (x0.2, ())).1)), ((w64 ((9999 : Int) * (g_bc (x0.2, ())).1)), ())))).1, ())) else none) else none) else (some (false, ()))) := by kernel_rfl
theorem S_bd (h_iin : C_iin (fun _ => true) g_iin) (h_bc : C_bc p_bc g_bc) {pre : In_bd -> Bool} {fn : In_bd -> Out_bd} (hev : ∀ x, pre x = true -> ∃ k, E_bd g_iin g_bc p_bc k x = some (fn x)) : C_bd pre fn := sound tysOk mixed (fn := Tryz.f124) rfl rfl rfl (.cons h_iin (.cons h_bc .nil)) _ hev
end
/-! be: inearest -/
abbrev M_be : List Vm.Mode := [.imm I, .imm I]
abbrev R_be : List (RK × Sh) := [(.imm, I)]
abbrev In_be : Type := (insSh M_be).den
abbrev Out_be : Type := (outSh R_be M_be).den
abbrev C_be (pre : In_be -> Bool) (fn : In_be -> Out_be) : Prop := Sound Tryz.prog 255 ⟨M_be, R_be, pre, fn⟩
section
variable (g_be : In_be -> Out_be) (p_be : In_be -> Bool)
abbrev X_be : Ctx := ctx tys 19 (conOf [(255, ⟨M_be, R_be, p_be, g_be⟩)]) (keepOf []) (fun _ => [])
noncomputable abbrev E_be (k : Nat) (x : In_be) : Option Out_be := evFn (X_be g_be p_be) Tryz.f255 R_be M_be k x
variable {g_be p_be}
theorem ev_be (k : Nat) (x0 : Dm (.imm I)) (x1 : Dm (.imm I)) : E_be g_be p_be k (x0, x1, ()) =
  (bif (decide (x0 < (0 : Int))) then (bif (p_be ((w64 ((0 : Int) - x0)), (x1, ()))) then (some ((w64 ((0 : Int) - (g_be ((w64 ((0 : Int) - x0)), (x1, ()))).1)), ())) else none) else (bif (bif (decide ((w64 ((2 : Int) * x1)) = (0 : Int))) then false else true) then (some ((w64 (Int.tdiv (w64 ((w64 ((2 : Int) * x0)) + x1)) (w64 ((2 : Int) * x1)))), ())) else none)) := by kernel_rfl
theorem S_be (h_be : C_be p_be g_be) {pre : In_be -> Bool} {fn : In_be -> Out_be} (hev : ∀ x, pre x = true -> ∃ k, E_be g_be p_be k x = some (fn x)) : C_be pre fn := sound tysOk mixed (fn := Tryz.f255) rfl rfl rfl (.cons h_be .nil) _ hev
end
theorem S0_be {fn : In_be -> Out_be} : C_be (fun _ => false) fn := sound tysOk mixed (fn := Tryz.f255) (n := 19) (keep := keepOf []) (fz := fun _ => []) rfl rfl rfl ConsOk.nil _ fun x hx => by cases hx
/-! bf: iDecAt -/
abbrev M_bf : List Vm.Mode := [.imm S_DecDec, .imm I]
abbrev R_bf : List (RK × Sh) := [(.imm, S_DecDec)]
abbrev In_bf : Type := (insSh M_bf).den
abbrev Out_bf : Type := (outSh R_bf M_bf).den
abbrev C_bf (pre : In_bf -> Bool) (fn : In_bf -> Out_bf) : Prop := Sound Tryz.prog 237 ⟨M_bf, R_bf, pre, fn⟩
section
variable (g_bd : In_bd -> Out_bd) (g_iin : In_iin -> Out_iin) (g_bc : In_bc -> Out_bc) (p_bc : In_bc -> Bool) (g_be : In_be -> Out_be) (p_be : In_be -> Bool)
abbrev X_bf : Ctx := ctx tys 40 (conOf [(124, ⟨M_bd, R_bd, fun _ => true, g_bd⟩), (72, ⟨M_iin, R_iin, fun _ => true, g_iin⟩), (189, ⟨M_bc, R_bc, p_bc, g_bc⟩), (255, ⟨M_be, R_be, p_be, g_be⟩)]) (keepOf []) (fun _ => [])
noncomputable abbrev E_bf (k : Nat) (x : In_bf) : Option Out_bf := evFn (X_bf g_bd g_iin g_bc p_bc g_be p_be) Tryz.f237 R_bf M_bf k x
variable {g_bd g_iin g_bc p_bc g_be p_be}
theorem ev_bf (k : Nat) (x0 : Dm (.imm S_DecDec)) (x1 : Dm (.imm I)) : E_bf g_bd g_iin g_bc p_bc g_be p_be k (x0, x1, ()) =
  (bif (bif (g_bd (x0, ())).1 then false else true) then (some (((0 : Int), (0 : Int)), ())) else (bif (bif (g_iin (x1, ((0 : Int), ((3 : Int), ())))).1 then false else true) then (some (((0 : Int), (0 : Int)), ())) else (bif (decide (x0.2 <= x1)) then (bif (p_bc ((w64 (x1 - x0.2)), ())) then (some (((w64 (x0.1 * (g_bc ((w64 (x1 - x0.2)), ())).1)), x1), ())) else none) else (bif (p_bc ((w64 (x0.2 - x1)), ())) then (bif (p_be (x0.1, ((g_bc ((w64 (x0.2 - x1)), ())).1, ()))) then (some (((g_be (x0.1, ((g_bc ((w64 (x0.2 - x1)), ())).1, ()))).1, x1), ())) else none) else none)))) := by kernel_rfl
theorem S_bf (h_bd : C_bd (fun _ => true) g_bd) (h_iin : C_iin (fun _ => true) g_iin) (h_bc : C_bc p_bc g_bc) (h_be : C_be p_be g_be) {pre : In_bf -> Bool} {fn : In_bf -> Out_bf} (hev : ∀ x, pre x = true -> ∃ k, E_bf g_bd g_iin g_bc p_bc g_be p_be k x = some (fn x)) : C_bf pre fn := sound tysOk mixed (fn := Tryz.f237) rfl rfl rfl (.cons h_bd (.cons h_iin (.cons h_bc (.cons h_be .nil)))) _ hev
end
/-! bg: gisNaN_int -/
abbrev M_bg : List Vm.Mode := [.imm I]
abbrev R_bg : List (RK × Sh) := [(.imm, .bool)]
abbrev In_bg : Type := (insSh M_bg).den
abbrev Out_bg : Type := (outSh R_bg M_bg).den
abbrev C_bg (pre : In_bg -> Bool) (fn : In_bg -> Out_bg) : Prop := Sound Tryz.prog 264 ⟨M_bg, R_bg, pre, fn⟩
abbrev X_bg : Ctx := ctx tys 6 (conOf []) (keepOf []) (fun _ => [])
noncomputable abbrev E_bg (k : Nat) (x : In_bg) : Option Out_bg := evFn X_bg Tryz.f264 R_bg M_bg k x
theorem ev_bg (k : Nat) (x0 : Dm (.imm I)) : E_bg k (x0, ()) =
  (some ((bif (decide (x0 = x0)) then false else true), ())) := by kernel_rfl
theorem S_bg  {pre : In_bg -> Bool} {fn : In_bg -> Out_bg} (hev : ∀ x, pre x = true -> ∃ k, E_bg k x = some (fn x)) : C_bg pre fn := sound tysOk mixed (fn := Tryz.f264) rfl rfl rfl ConsOk.nil _ hev
/-! bh: gCompare_int -/
abbrev M_bh : List Vm.Mode := [.imm I, .imm I]
abbrev R_bh : List (RK × Sh) := [(.imm, I)]
abbrev In_bh : Type := (insSh M_bh).den
abbrev Out_bh : Type := (outSh R_bh M_bh).den
abbrev C_bh (pre : In_bh -> Bool) (fn : In_bh -> Out_bh) : Prop := Sound Tryz.prog 252 ⟨M_bh, R_bh, pre, fn⟩
section
variable (g_bg : In_bg -> Out_bg)
abbrev X_bh : Ctx := ctx tys 20 (conOf [(264, ⟨M_bg, R_bg, fun _ => true, g_bg⟩)]) (keepOf []) (fun _ => [])
noncomputable abbrev E_bh (k : Nat) (x : In_bh) : Option Out_bh := evFn (X_bh g_bg) Tryz.f252 R_bh M_bh k x
variable {g_bg}
theorem ev_bh (k : Nat) (x0 : Dm (.imm I)) (x1 : Dm (.imm I)) : E_bh g_bg k (x0, x1, ()) =
  (bif (g_bg (x0, ())).1 then (bif (g_bg (x1, ())).1 then (some ((0 : Int), ())) else (some ((-1 : Int), ()))) else (bif (g_bg (x1, ())).1 then (some ((1 : Int), ())) else (bif (decide (x0 < x1)) then (some ((-1 : Int), ())) else (bif (decide (x1 < x0)) then (some ((1 : Int), ())) else (some ((0 : Int), ())))))) := by kernel_rfl
theorem S_bh (h_bg : C_bg (fun _ => true) g_bg) {pre : In_bh -> Bool} {fn : In_bh -> Out_bh} (hev : ∀ x, pre x = true -> ∃ k, E_bh g_bg k x = some (fn x)) : C_bh pre fn := sound tysOk mixed (fn := Tryz.f252) rfl rfl rfl (.cons h_bg .nil) _ hev
end
/-! bi: iDecCmp -/
abbrev M_bi : List Vm.Mode := [.imm S_DecDec, .imm S_DecDec]
abbrev R_bi : List (RK × Sh) := [(.imm, I)]
abbrev In_bi : Type := (insSh M_bi).den
abbrev Out_bi : Type := (outSh R_bi M_bi).den
abbrev C_bi (pre : In_bi -> Bool) (fn : In_bi -> Out_bi) : Prop := Sound Tryz.prog 232 ⟨M_bi, R_bi, pre, fn⟩
section
variable (g_bd : In_bd -> Out_bd) (g_bf : In_bf -> Out_bf) (g_bh : In_bh -> Out_bh)
abbrev X_bi : Ctx := ctx tys 20 (conOf [(124, ⟨M_bd, R_bd, fun _ => true, g_bd⟩), (237, ⟨M_bf, R_bf, fun _ => true, g_bf⟩), (252, ⟨M_bh, R_bh, fun _ => true, g_bh⟩)]) (keepOf []) (fun _ => [])
noncomputable abbrev E_bi (k : Nat) (x : In_bi) : Option Out_bi := evFn (X_bi g_bd g_bf g_bh) Tryz.f232 R_bi M_bi k x
variable {g_bd g_bf g_bh}
theorem ev_bi (k : Nat) (x0 : Dm (.imm S_DecDec)) (x1 : Dm (.imm S_DecDec)) : E_bi g_bd g_bf g_bh k (x0, x1, ()) =
  (bif (bif (g_bd (x0, ())).1 then false else true) then (some ((0 : Int), ())) else (bif (bif (g_bd (x1, ())).1 then false else true) then (some ((0 : Int), ())) else (some ((g_bh ((g_bf (x0, ((3 : Int), ()))).1.1, ((g_bf (x1, ((3 : Int), ()))).1.1, ()))).1, ())))) := by kernel_rfl
theorem S_bi (h_bd : C_bd (fun _ => true) g_bd) (h_bf : C_bf (fun _ => true) g_bf) (h_bh : C_bh (fun _ => true) g_bh) {pre : In_bi -> Bool} {fn : In_bi -> Out_bi} (hev : ∀ x, pre x = true -> ∃ k, E_bi g_bd g_bf g_bh k x = some (fn x)) : C_bi pre fn := sound tysOk mixed (fn := Tryz.f232) rfl rfl rfl (.cons h_bd (.cons h_bf (.cons h_bh .nil))) _ hev
end
/-! bj: iSpcTest_ok -/
abbrev M_bj : List Vm.Mode := [.imm S_SpcTest]
abbrev R_bj : List (RK × Sh) := [(.imm, .bool)]
abbrev In_bj : Type := (insSh M_bj).den
abbrev Out_bj : Type := (outSh R_bj M_bj).den
abbrev C_bj (pre : In_bj -> Bool) (fn : In_bj -> Out_bj) : Prop := Sound Tryz.prog 177 ⟨M_bj, R_bj, pre, fn⟩
section
variable (g_bb : In_bb -> Out_bb) (g_bd : In_bd -> Out_bd) (g_bi : In_bi -> Out_bi) (g_iin : In_iin -> Out_iin)
abbrev X_bj : Ctx := ctx tys 29 (conOf [(197, ⟨M_bb, R_bb, fun _ => true, g_bb⟩), (124, ⟨M_bd, R_bd, fun _ => true, g_bd⟩), (232, ⟨M_bi, R_bi, fun _ => true, g_bi⟩), (72, ⟨M_iin, R_iin, fun _ => true, g_iin⟩)]) (keepOf []) (fun _ => [])
noncomputable abbrev E_bj (k : Nat) (x : In_bj) : Option Out_bj := evFn (X_bj g_bb g_bd g_bi g_iin) Tryz.f177 R_bj M_bj k x
variable {g_bb g_bd g_bi g_iin}
theorem ev_bj (k : Nat) (x0 : Dm (.imm S_SpcTest)) : E_bj g_bb g_bd g_bi g_iin k (x0, ()) =
  (bif (g_bb (x0.1, ())).1 then (bif (g_bd (x0.2.1, ())).1 then (bif (g_bd (x0.2.2.1, ())).1 then (bif (decide ((g_bi (x0.2.1, (x0.2.2.1, ()))).1 <= (0 : Int))) then (some ((g_iin (x0.2.2.2, ((0 : Int), ((3 : Int), ())))).1, ())) else (some (false, ()))) else (some (false, ()))) else (some (false, ()))) else (some (false, ()))) := by kernel_rfl
theorem S_bj (h_bb : C_bb (fun _ => true) g_bb) (h_bd : C_bd (fun _ => true) g_bd) (h_bi : C_bi (fun _ => true) g_bi) (h_iin : C_iin (fun _ => true) g_iin) {pre : In_bj -> Bool} {fn : In_bj -> Out_bj} (hev : ∀ x, pre x = true -> ∃ k, E_bj g_bb g_bd g_bi g_iin k x = some (fn x)) : C_bj pre fn := sound tysOk mixed (fn := Tryz.f177) rfl rfl rfl (.cons h_bb (.cons h_bd (.cons h_bi (.cons h_iin .nil)))) _ hev
end
/-! bk: idecsOk_c1 -/
abbrev M_bk : List Vm.Mode := [.imm S_DecDec]
abbrev R_bk : List (RK × Sh) := [(.imm, .bool)]
abbrev In_bk : Type := (insSh M_bk).den
abbrev Out_bk : Type := (outSh R_bk M_bk).den
abbrev C_bk (pre : In_bk -> Bool) (fn : In_bk -> Out_bk) : Prop := Sound Tryz.prog 234 ⟨M_bk, R_bk, pre, fn⟩
section
variable (g_bd : In_bd -> Out_bd)
abbrev X_bk : Ctx := ctx tys 6 (conOf [(124, ⟨M_bd, R_bd, fun _ => true, g_bd⟩)]) (keepOf []) (fun _ => [])
noncomputable abbrev E_bk (k : Nat) (x : In_bk) : Option Out_bk := evFn (X_bk g_bd) Tryz.f234 R_bk M_bk k x
variable {g_bd}
theorem ev_bk (k : Nat) (x0 : Dm (.imm S_DecDec)) : E_bk g_bd k (x0, ()) =
  (some ((bif (g_bd (x0, ())).1 then false else true), ())) := by kernel_rfl
theorem S_bk (h_bd : C_bd (fun _ => true) g_bd) {pre : In_bk -> Bool} {fn : In_bk -> Out_bk} (hev : ∀ x, pre x = true -> ∃ k, E_bk g_bd k x = some (fn x)) : C_bk pre fn := sound tysOk mixed (fn := Tryz.f234) rfl rfl rfl (.cons h_bd .nil) _ hev
end
/-! bl: gIndexFunc_DecDec__idecsOk_c1 -/
abbrev M_bl : List Vm.Mode := [.imm L_DecDec, .clo 234 []]
abbrev R_bl : List (RK × Sh) := [(.imm, I)]
abbrev In_bl : Type := (insSh M_bl).den
abbrev Out_bl : Type := (outSh R_bl M_bl).den
abbrev C_bl (pre : In_bl -> Bool) (fn : In_bl -> Out_bl) : Prop := Sound Tryz.prog 253 ⟨M_bl, R_bl, pre, fn⟩
section
variable (g_bk : In_bk -> Out_bk)
abbrev X_bl : Ctx := ctx tys 19 (conOf [(234, ⟨M_bk, R_bk, fun _ => true, g_bk⟩)]) (keepOf [(pt0, (⟨[(0, .asis), (1, .asis), (7, .asis), (8, .asis)], [], []⟩ : Keep))]) (fun _ => [])
noncomputable abbrev E_bl (k : Nat) (x : In_bl) : Option Out_bl := evFn (X_bl g_bk) Tryz.f253 R_bl M_bl k x
def h0_bl (x0 : Dm (.imm L_DecDec)) (x1 : Dm (.clo 234 [])) (h0 : Dn I) (h1 : Dn I) : St := mkS [(0, (AV.val L_DecDec x0)), (1, (AV.fn 234 [])), (7, (AV.val I h0)), (8, (AV.val I h1))] []
noncomputable def r_bl (x : In_bl) (k : Nat) (p : List Bool) (s : St) : Option Out_bl := rounds (X_bl g_bk) Tryz.f253 R_bl M_bl x k p s
variable {g_bk}
theorem ev_bl (k : Nat) (x0 : Dm (.imm L_DecDec)) (x1 : Dm (.clo 234 [])) : E_bl g_bk k (x0, x1, ()) =
  (r_bl g_bk (x0, x1, ()) k pt0 (h0_bl x0 x1 (List.length x0 : Int) (0 : Int))) := by kernel_rfl
theorem rd0_bl (k : Nat) (x0 : Dm (.imm L_DecDec)) (x1 : Dm (.clo 234 [])) (h0 : Dn I) (h1 : Dn I) : r_bl g_bk (x0, x1, ()) (k + 1) pt0 (h0_bl x0 x1 h0 h1) =
  (bif (decide (h1 < h0)) then (bif (bif (decide ((0 : Int) <= h1)) then (decide (h1 < (List.length x0 : Int))) else false) then (bif (g_bk ((rdL (e := S_DecDec) x0 h1), ())).1 then (some (h1, ())) else (r_bl g_bk (x0, x1, ()) k pt0 (h0_bl x0 x1 h0 (w64 (h1 + (1 : Int)))))) else none) else (some ((-1 : Int), ()))) := by kernel_rfl
theorem S_bl (h_bk : C_bk (fun _ => true) g_bk) {pre : In_bl -> Bool} {fn : In_bl -> Out_bl} (hev : ∀ x, pre x = true -> ∃ k, E_bl g_bk k x = some (fn x)) : C_bl pre fn := sound tysOk mixed (fn := Tryz.f253) rfl rfl rfl (.cons h_bk .nil) _ hev
end
/-! bm: gContainsFunc_DecDec__idecsOk_c1 -/
abbrev M_bm : List Vm.Mode := [.imm L_DecDec, .clo 234 []]
abbrev R_bm : List (RK × Sh) := [(.imm, .bool)]
abbrev In_bm : Type := (insSh M_bm).den
abbrev Out_bm : Type := (outSh R_bm M_bm).den
abbrev C_bm (pre : In_bm -> Bool) (fn : In_bm -> Out_bm) : Prop := Sound Tryz.prog 233 ⟨M_bm, R_bm, pre, fn⟩
section
variable (g_bl : In_bl -> Out_bl) (p_bl : In_bl -> Bool)
abbrev X_bm : Ctx := ctx tys 9 (conOf [(253, ⟨M_bl, R_bl, p_bl, g_bl⟩)]) (keepOf []) (fun _ => [])
noncomputable abbrev E_bm (k : Nat) (x : In_bm) : Option Out_bm := evFn (X_bm g_bl p_bl) Tryz.f233 R_bm M_bm k x
variable {g_bl p_bl}
theorem ev_bm (k : Nat) (x0 : Dm (.imm L_DecDec)) (x1 : Dm (.clo 234 [])) : E_bm g_bl p_bl k (x0, x1, ()) =
  (bif (p_bl (x0, ((), ()))) then (some ((decide ((0 : Int) <= (g_bl (x0, ((), ()))).1)), ())) else none) := by kernel_rfl
theorem S_bm (h_bl : C_bl p_bl g_bl) {pre : In_bm -> Bool} {fn : In_bm -> Out_bm} (hev : ∀ x, pre x = true -> ∃ k, E_bm g_bl p_bl k x = some (fn x)) : C_bm pre fn := sound tysOk mixed (fn := Tryz.f233) rfl rfl rfl (.cons h_bl .nil) _ hev
end
/-! bn: idecsOk -/
abbrev M_bn : List Vm.Mode := [.imm L_DecDec]
abbrev R_bn : List (RK × Sh) := [(.imm, .bool)]
abbrev In_bn : Type := (insSh M_bn).den
abbrev Out_bn : Type := (outSh R_bn M_bn).den
abbrev C_bn (pre : In_bn -> Bool) (fn : In_bn -> Out_bn) : Prop := Sound Tryz.prog 178 ⟨M_bn, R_bn, pre, fn⟩
section
variable (g_bm : In_bm -> Out_bm) (p_bm : In_bm -> Bool)
abbrev X_bn : Ctx := ctx tys 6 (conOf [(233, ⟨M_bm, R_bm, p_bm, g_bm⟩)]) (keepOf []) (fun _ => [])
noncomputable abbrev E_bn (k : Nat) (x : In_bn) : Option Out_bn := evFn (X_bn g_bm p_bm) Tryz.f178 R_bn M_bn k x
variable {g_bm p_bm}
theorem ev_bn (k : Nat) (x0 : Dm (.imm L_DecDec)) : E_bn g_bm p_bm k (x0, ()) =
  (bif (p_bm (x0, ((), ()))) then (some ((bif (g_bm (x0, ((), ()))).1 then false else true), ())) else none) := by kernel_rfl
theorem S_bn (h_bm : C_bm p_bm g_bm) {pre : In_bn -> Bool} {fn : In_bn -> Out_bn} (hev : ∀ x, pre x = true -> ∃ k, E_bn g_bm p_bm k x = some (fn x)) : C_bn pre fn := sound tysOk mixed (fn := Tryz.f178) rfl rfl rfl (.cons h_bm .nil) _ hev
end
/-! bo: iTstNeed -/
abbrev M_bo : List Vm.Mode := [.imm I]
abbrev R_bo : List (RK × Sh) := [(.imm, I)]
abbrev In_bo : Type := (insSh M_bo).den
abbrev Out_bo : Type := (outSh R_bo M_bo).den
abbrev C_bo (pre : In_bo -> Bool) (fn : In_bo -> Out_bo) : Prop := Sound Tryz.prog 179 ⟨M_bo, R_bo, pre, fn⟩
abbrev X_bo : Ctx := ctx tys 8 (conOf []) (keepOf []) (fun _ => [])
noncomputable abbrev E_bo (k : Nat) (x : In_bo) : Option Out_bo := evFn X_bo Tryz.f179 R_bo M_bo k x
theorem ev_bo (k : Nat) (x0 : Dm (.imm I)) : E_bo k (x0, ()) =
  (bif (decide (x0 = (1 : Int))) then (some ((1 : Int), ())) else (bif (decide (x0 = (2 : Int))) then (some ((2 : Int), ())) else (some ((0 : Int), ())))) := by kernel_rfl
theorem S_bo  {pre : In_bo -> Bool} {fn : In_bo -> Out_bo} (hev : ∀ x, pre x = true -> ∃ k, E_bo k x = some (fn x)) : C_bo pre fn := sound tysOk mixed (fn := Tryz.f179) rfl rfl rfl ConsOk.nil _ hev
/-! bp: iSpcIn -/
abbrev M_bp : List Vm.Mode := [.imm S_SpcTest, .imm S_DecDec]
abbrev R_bp : List (RK × Sh) := [(.imm, .bool)]
abbrev In_bp : Type := (insSh M_bp).den
abbrev Out_bp : Type := (outSh R_bp M_bp).den
abbrev C_bp (pre : In_bp -> Bool) (fn : In_bp -> Out_bp) : Prop := Sound Tryz.prog 181 ⟨M_bp, R_bp, pre, fn⟩
section
variable (g_bj : In_bj -> Out_bj) (g_bd : In_bd -> Out_bd) (g_bf : In_bf -> Out_bf) (g_bi : In_bi -> Out_bi)
abbrev X_bp : Ctx := ctx tys 30 (conOf [(177, ⟨M_bj, R_bj, fun _ => true, g_bj⟩), (124, ⟨M_bd, R_bd, fun _ => true, g_bd⟩), (237, ⟨M_bf, R_bf, fun _ => true, g_bf⟩), (232, ⟨M_bi, R_bi, fun _ => true, g_bi⟩)]) (keepOf []) (fun _ => [])
noncomputable abbrev E_bp (k : Nat) (x : In_bp) : Option Out_bp := evFn (X_bp g_bj g_bd g_bf g_bi) Tryz.f181 R_bp M_bp k x
variable {g_bj g_bd g_bf g_bi}
theorem ev_bp (k : Nat) (x0 : Dm (.imm S_SpcTest)) (x1 : Dm (.imm S_DecDec)) : E_bp g_bj g_bd g_bf g_bi k (x0, x1, ()) =
  (bif (bif (g_bj (x0, ())).1 then false else true) then (some (false, ())) else (bif (bif (g_bd (x1, ())).1 then false else true) then (some (false, ())) else (bif (decide ((g_bi (x0.2.1, ((g_bf (x1, (x0.2.2.2, ()))).1, ()))).1 <= (0 : Int))) then (some ((decide ((g_bi ((g_bf (x1, (x0.2.2.2, ()))).1, (x0.2.2.1, ()))).1 <= (0 : Int))), ())) else (some (false, ()))))) := by kernel_rfl
theorem S_bp (h_bj : C_bj (fun _ => true) g_bj) (h_bd : C_bd (fun _ => true) g_bd) (h_bf : C_bf (fun _ => true) g_bf) (h_bi : C_bi (fun _ => true) g_bi) {pre : In_bp -> Bool} {fn : In_bp -> Out_bp} (hev : ∀ x, pre x = true -> ∃ k, E_bp g_bj g_bd g_bf g_bi k x = some (fn x)) : C_bp pre fn := sound tysOk mixed (fn := Tryz.f181) rfl rfl rfl (.cons h_bj (.cons h_bd (.cons h_bf (.cons h_bi .nil)))) _ hev
end
/-! bq: iDecMean -/
abbrev M_bq : List Vm.Mode := [.imm L_DecDec, .imm I]
abbrev R_bq : List (RK × Sh) := [(.imm, S_DecDec)]
abbrev In_bq : Type := (insSh M_bq).den
abbrev Out_bq : Type := (outSh R_bq M_bq).den
abbrev C_bq (pre : In_bq -> Bool) (fn : In_bq -> Out_bq) : Prop := Sound Tryz.prog 254 ⟨M_bq, R_bq, pre, fn⟩
section
variable (g_iin : In_iin -> Out_iin) (g_bn : In_bn -> Out_bn) (p_bn : In_bn -> Bool) (g_bf : In_bf -> Out_bf) (g_bc : In_bc -> Out_bc) (p_bc : In_bc -> Bool) (g_be : In_be -> Out_be) (p_be : In_be -> Bool)
abbrev X_bq : Ctx := ctx tys 46 (conOf [(72, ⟨M_iin, R_iin, fun _ => true, g_iin⟩), (178, ⟨M_bn, R_bn, p_bn, g_bn⟩), (237, ⟨M_bf, R_bf, fun _ => true, g_bf⟩), (189, ⟨M_bc, R_bc, p_bc, g_bc⟩), (255, ⟨M_be, R_be, p_be, g_be⟩)]) (keepOf [(pt2, (⟨[(0, .asis), (1, .asis), (4, .asis), (5, .asis), (23, .asis), (24, .asis), (25, .asis)], [(4, .asis)], []⟩ : Keep))]) (fun _ => [])
noncomputable abbrev E_bq (k : Nat) (x : In_bq) : Option Out_bq := evFn (X_bq g_iin g_bn p_bn g_bf g_bc p_bc g_be p_be) Tryz.f254 R_bq M_bq k x
def h0_bq (x0 : Dm (.imm L_DecDec)) (x1 : Dm (.imm I)) (h0 : Dn I) (h1 : Dn I) (h2 : Dn I) (h3 : Dn S_DecDec) : St := mkS [(0, (AV.val L_DecDec x0)), (1, (AV.val I x1)), (4, (AV.ptr 4 none [])), (5, (AV.val I h0)), (23, (AV.val L_DecDec x0)), (24, (AV.val I h1)), (25, (AV.val I h2))] [(4, (Ob.box S_DecDec (AV.val S_DecDec h3)))]
noncomputable def r_bq (x : In_bq) (k : Nat) (p : List Bool) (s : St) : Option Out_bq := rounds (X_bq g_iin g_bn p_bn g_bf g_bc p_bc g_be p_be) Tryz.f254 R_bq M_bq x k p s
variable {g_iin g_bn p_bn g_bf g_bc p_bc g_be p_be}
theorem ev_bq (k : Nat) (x0 : Dm (.imm L_DecDec)) (x1 : Dm (.imm I)) : E_bq g_iin g_bn p_bn g_bf g_bc p_bc g_be p_be k (x0, x1, ()) =
  (bif (bif (g_iin ((List.length x0 : Int), ((1 : Int), ((100 : Int), ())))).1 then false else true) then (some (((0 : Int), (0 : Int)), ())) else (bif (p_bn (x0, ())) then (bif (bif (g_bn (x0, ())).1 then false else true) then (some (((0 : Int), (0 : Int)), ())) else (bif (bif (g_iin (x1, ((0 : Int), ((3 : Int), ())))).1 then false else true) then (some (((0 : Int), (0 : Int)), ())) else (r_bq g_iin g_bn p_bn g_bf g_bc p_bc g_be p_be (x0, x1, ()) k pt2 (h0_bq x0 x1 (0 : Int) (List.length x0 : Int) (0 : Int) ((0 : Int), (0 : Int)))))) else none)) := by kernel_rfl
theorem rd0_bq (k : Nat) (x0 : Dm (.imm L_DecDec)) (x1 : Dm (.imm I)) (h0 : Dn I) (h1 : Dn I) (h2 : Dn I) (h3 : Dn S_DecDec) : r_bq g_iin g_bn p_bn g_bf g_bc p_bc g_be p_be (x0, x1, ()) (k + 1) pt2 (h0_bq x0 x1 h0 h1 h2 h3) =
  (bif (decide (h2 < h1)) then (bif (bif (decide ((0 : Int) <= h2)) then (decide (h2 < (List.length x0 : Int))) else false) then (r_bq g_iin g_bn p_bn g_bf g_bc p_bc g_be p_be (x0, x1, ()) k pt2 (h0_bq x0 x1 (w64 (h0 + (g_bf ((rdL (e := S_DecDec) x0 h2), ((3 : Int), ()))).1.1)) h1 (w64 (h2 + (1 : Int))) h3)) else none) else (bif (p_bc (x1, ())) then (bif (p_bc ((3 : Int), ())) then (bif (p_be ((w64 (h0 * (g_bc (x1, ())).1)), ((w64 ((List.length x0 : Int) * (g_bc ((3 : Int), ())).1)), ()))) then (some (((g_be ((w64 (h0 * (g_bc (x1, ())).1)), ((w64 ((List.length x0 : Int) * (g_bc ((3 : Int), ())).1)), ()))).1, x1), ())) else none) else none) else none)) := by kernel_rfl
theorem S_bq (h_iin : C_iin (fun _ => true) g_iin) (h_bn : C_bn p_bn g_bn) (h_bf : C_bf (fun _ => true) g_bf) (h_bc : C_bc p_bc g_bc) (h_be : C_be p_be g_be) {pre : In_bq -> Bool} {fn : In_bq -> Out_bq} (hev : ∀ x, pre x = true -> ∃ k, E_bq g_iin g_bn p_bn g_bf g_bc p_bc g_be p_be k x = some (fn x)) : C_bq pre fn := sound tysOk mixed (fn := Tryz.f254) rfl rfl rfl (.cons h_iin (.cons h_bn (.cons h_bf (.cons h_bc (.cons h_be .nil))))) _ hev
end
/-! br: iTstTest_counts -/
abbrev M_br : List Vm.Mode := [.imm S_TstTest]
abbrev R_br : List (RK × Sh) := [(.imm, S_DecDec)]
abbrev In_br : Type := (insSh M_br).den
abbrev Out_br : Type := (outSh R_br M_br).den
abbrev C_br (pre : In_br -> Bool) (fn : In_br -> Out_br) : Prop := Sound Tryz.prog 235 ⟨M_br, R_br, pre, fn⟩
section
variable (g_bf : In_bf -> Out_bf) (g_bq : In_bq -> Out_bq) (p_bq : In_bq -> Bool)
abbrev X_br : Ctx := ctx tys 33 (conOf [(237, ⟨M_bf, R_bf, fun _ => true, g_bf⟩), (254, ⟨M_bq, R_bq, p_bq, g_bq⟩)]) (keepOf []) (fun _ => [])
noncomputable abbrev E_br (k : Nat) (x : In_br) : Option Out_br := evFn (X_br g_bf g_bq p_bq) Tryz.f235 R_br M_br k x
variable {g_bf g_bq p_bq}
theorem ev_br (k : Nat) (x0 : Dm (.imm S_TstTest)) : E_br g_bf g_bq p_bq k (x0, ()) =
  (bif (decide (x0.2.2.2.1 = (1 : Int))) then (bif (bif (decide ((0 : Int) <= (0 : Int))) then (decide ((0 : Int) < (List.length x0.2.2.2.2 : Int))) else false) then (some ((g_bf ((rdL (e := S_DecDec) x0.2.2.2.2 (0 : Int)), (x0.1.2.2.2, ()))).1, ())) else none) else (bif (decide (x0.2.2.2.1 = (2 : Int))) then (bif (fitL [x0.2.2.1] x0.2.2.2.2) then (bif (p_bq ((List.append [x0.2.2.1] x0.2.2.2.2), (x0.1.2.2.2, ()))) then (some ((g_bq ((List.append [x0.2.2.1] x0.2.2.2.2), (x0.1.2.2.2, ()))).1, ())) else none) else none) else (some ((g_bf (x0.2.2.1, (x0.1.2.2.2, ()))).1, ())))) := by kernel_rfl
theorem S_br (h_bf : C_bf (fun _ => true) g_bf) (h_bq : C_bq p_bq g_bq) {pre : In_br -> Bool} {fn : In_br -> Out_br} (hev : ∀ x, pre x = true -> ∃ k, E_br g_bf g_bq p_bq k x = some (fn x)) : C_br pre fn := sound tysOk mixed (fn := Tryz.f235) rfl rfl rfl (.cons h_bf (.cons h_bq .nil)) _ hev
end
/-! bs: iTstTest_told_c1 -/
abbrev M_bs : List Vm.Mode := [.imm S_DecDec, .pR S_TstTest]
abbrev R_bs : List (RK × Sh) := [(.imm, .bool)]
abbrev In_bs : Type := (insSh M_bs).den
abbrev Out_bs : Type := (outSh R_bs M_bs).den
abbrev C_bs (pre : In_bs -> Bool) (fn : In_bs -> Out_bs) : Prop := Sound Tryz.prog 236 ⟨M_bs, R_bs, pre, fn⟩
section
variable (g_bp : In_bp -> Out_bp)
abbrev X_bs : Ctx := ctx tys 9 (conOf [(181, ⟨M_bp, R_bp, fun _ => true, g_bp⟩)]) (keepOf []) (fun _ => [])
noncomputable abbrev E_bs (k : Nat) (x : In_bs) : Option Out_bs := evFn (X_bs g_bp) Tryz.f236 R_bs M_bs k x
variable {g_bp}
theorem ev_bs (k : Nat) (x0 : Dm (.imm S_DecDec)) (x1 : Dm (.pR S_TstTest)) : E_bs g_bp k (x0, x1, ()) =
  (some ((bif (g_bp (x1.1, (x0, ()))).1 then false else true), ())) := by kernel_rfl
theorem S_bs (h_bp : C_bp (fun _ => true) g_bp) {pre : In_bs -> Bool} {fn : In_bs -> Out_bs} (hev : ∀ x, pre x = true -> ∃ k, E_bs g_bp k x = some (fn x)) : C_bs pre fn := sound tysOk mixed (fn := Tryz.f236) rfl rfl rfl (.cons h_bp .nil) _ hev
end
/-! bt: gIndexFunc_DecDec__iTstTest_told_c1 -/
abbrev M_bt : List Vm.Mode := [.imm L_DecDec, .clo 236 [S_TstTest]]
abbrev R_bt : List (RK × Sh) := [(.imm, I)]
abbrev In_bt : Type := (insSh M_bt).den
abbrev Out_bt : Type := (outSh R_bt M_bt).den
abbrev C_bt (pre : In_bt -> Bool) (fn : In_bt -> Out_bt) : Prop := Sound Tryz.prog 253 ⟨M_bt, R_bt, pre, fn⟩
section
variable (g_bs : In_bs -> Out_bs)
abbrev X_bt : Ctx := ctx tys 19 (conOf [(236, ⟨M_bs, R_bs, fun _ => true, g_bs⟩)]) (keepOf [(pt0, (⟨[(0, .asis), (1, .asis), (7, .asis), (8, .asis)], [(1000005000, .asis)], []⟩ : Keep))]) (fun _ => [])
noncomputable abbrev E_bt (k : Nat) (x : In_bt) : Option Out_bt := evFn (X_bt g_bs) Tryz.f253 R_bt M_bt k x
def h0_bt (x0 : Dm (.imm L_DecDec)) (x1 : Dm (.clo 236 [S_TstTest])) (h0 : Dn I) (h1 : Dn I) : St := mkS [(0, (AV.val L_DecDec x0)), (1, (AV.fn 236 [1000005000])), (7, (AV.val I h0)), (8, (AV.val I h1))] [(1000005000, (Ob.cbox S_TstTest x1.1))]
noncomputable def r_bt (x : In_bt) (k : Nat) (p : List Bool) (s : St) : Option Out_bt := rounds (X_bt g_bs) Tryz.f253 R_bt M_bt x k p s
variable {g_bs}
theorem ev_bt (k : Nat) (x0 : Dm (.imm L_DecDec)) (x1 : Dm (.clo 236 [S_TstTest])) : E_bt g_bs k (x0, x1, ()) =
  (r_bt g_bs (x0, x1, ()) k pt0 (h0_bt x0 x1 (List.length x0 : Int) (0 : Int))) := by kernel_rfl
theorem rd0_bt (k : Nat) (x0 : Dm (.imm L_DecDec)) (x1 : Dm (.clo 236 [S_TstTest])) (h0 : Dn I) (h1 : Dn I) : r_bt g_bs (x0, x1, ()) (k + 1) pt0 (h0_bt x0 x1 h0 h1) =
  (bif (decide (h1 < h0)) then (bif (bif (decide ((0 : Int) <= h1)) then (decide (h1 < (List.length x0 : Int))) else false) then (bif (g_bs ((rdL (e := S_DecDec) x0 h1), (x1.1, ()))).1 then (some (h1, ())) else (r_bt g_bs (x0, x1, ()) k pt0 (h0_bt x0 x1 h0 (w64 (h1 + (1 : Int)))))) else none) else (some ((-1 : Int), ()))) := by kernel_rfl
theorem S_bt (h_bs : C_bs (fun _ => true) g_bs) {pre : In_bt -> Bool} {fn : In_bt -> Out_bt} (hev : ∀ x, pre x = true -> ∃ k, E_bt g_bs k x = some (fn x)) : C_bt pre fn := sound tysOk mixed (fn := Tryz.f253) rfl rfl rfl (.cons h_bs .nil) _ hev
end
/-! bu: gContainsFunc_DecDec__iTstTest_told_c1 -/
abbrev M_bu : List Vm.Mode := [.imm L_DecDec, .clo 236 [S_TstTest]]
abbrev R_bu : List (RK × Sh) := [(.imm, .bool)]
abbrev In_bu : Type := (insSh M_bu).den
abbrev Out_bu : Type := (outSh R_bu M_bu).den
abbrev C_bu (pre : In_bu -> Bool) (fn : In_bu -> Out_bu) : Prop := Sound Tryz.prog 233 ⟨M_bu, R_bu, pre, fn⟩
section
variable (g_bt : In_bt -> Out_bt) (p_bt : In_bt -> Bool)
abbrev X_bu : Ctx := ctx tys 9 (conOf [(253, ⟨M_bt, R_bt, p_bt, g_bt⟩)]) (keepOf []) (fun _ => [])
noncomputable abbrev E_bu (k : Nat) (x : In_bu) : Option Out_bu := evFn (X_bu g_bt p_bt) Tryz.f233 R_bu M_bu k x
variable {g_bt p_bt}
theorem ev_bu (k : Nat) (x0 : Dm (.imm L_DecDec)) (x1 : Dm (.clo 236 [S_TstTest])) : E_bu g_bt p_bt k (x0, x1, ()) =
  (bif (p_bt (x0, ((x1.1, ()), ()))) then (some ((decide ((0 : Int) <= (g_bt (x0, ((x1.1, ()), ()))).1)), ())) else none) := by kernel_rfl
theorem S_bu (h_bt : C_bt p_bt g_bt) {pre : In_bu -> Bool} {fn : In_bu -> Out_bu} (hev : ∀ x, pre x = true -> ∃ k, E_bu g_bt p_bt k x = some (fn x)) : C_bu pre fn := sound tysOk mixed (fn := Tryz.f233) rfl rfl rfl (.cons h_bt .nil) _ hev
end
/-! bv: iTstTest_told -/
abbrev M_bv : List Vm.Mode := [.imm S_TstTest]
abbrev R_bv : List (RK × Sh) := [(.imm, I)]
abbrev In_bv : Type := (insSh M_bv).den
abbrev Out_bv : Type := (outSh R_bv M_bv).den
abbrev C_bv (pre : In_bv -> Bool) (fn : In_bv -> Out_bv) : Prop := Sound Tryz.prog 180 ⟨M_bv, R_bv, pre, fn⟩
section
variable (g_bp : In_bp -> Out_bp) (g_bo : In_bo -> Out_bo) (g_br : In_br -> Out_br) (p_br : In_br -> Bool) (g_bu : In_bu -> Out_bu) (p_bu : In_bu -> Bool)
abbrev X_bv : Ctx := ctx tys 45 (conOf [(181, ⟨M_bp, R_bp, fun _ => true, g_bp⟩), (179, ⟨M_bo, R_bo, fun _ => true, g_bo⟩), (235, ⟨M_br, R_br, p_br, g_br⟩), (233, ⟨M_bu, R_bu, p_bu, g_bu⟩)]) (keepOf []) (fun _ => [])
noncomputable abbrev E_bv (k : Nat) (x : In_bv) : Option Out_bv := evFn (X_bv g_bp g_bo g_br p_br g_bu p_bu) Tryz.f180 R_bv M_bv k x
variable {g_bp g_bo g_br p_br g_bu p_bu}
theorem ev_bv (k : Nat) (x0 : Dm (.imm S_TstTest)) : E_bv g_bp g_bo g_br p_br g_bu p_bu k (x0, ()) =
  (bif (decide (x0.2.2.2.1 = (0 : Int))) then (bif (bif (g_bp (x0.1, (x0.2.2.1, ()))).1 then false else true) then (some ((1 : Int), ())) else (bif (decide (x0.2.2.2.1 = (0 : Int))) then (some ((3 : Int), ())) else (bif (decide ((List.length x0.2.2.2.2 : Int) < (g_bo (x0.2.2.2.1, ())).1)) then (some ((2 : Int), ())) else (bif (bif (decide (x0.2.2.2.1 = (3 : Int))) then false else true) then (bif (p_br (x0, ())) then (bif (g_bp (x0.1, ((g_br (x0, ())).1, ()))).1 then (bif (p_bu (x0.2.2.2.2, ((x0, ()), ()))) then (bif (bif (g_bu (x0.2.2.2.2, ((x0, ()), ()))).1 then false else true) then (some ((3 : Int), ())) else (some ((4 : Int), ()))) else none) else (some ((4 : Int), ()))) else none) else (some ((4 : Int), ())))))) else (bif (decide (x0.2.2.2.1 = (0 : Int))) then (some ((3 : Int), ())) else (bif (decide ((List.length x0.2.2.2.2 : Int) < (g_bo (x0.2.2.2.1, ())).1)) then (some ((2 : Int), ())) else (bif (bif (decide (x0.2.2.2.1 = (3 : Int))) then false else true) then (bif (p_br (x0, ())) then (bif (g_bp (x0.1, ((g_br (x0, ())).1, ()))).1 then (bif (p_bu (x0.2.2.2.2, ((x0, ()), ()))) then (bif (bif (g_bu (x0.2.2.2.2, ((x0, ()), ()))).1 then false else true) then (some ((3 : Int), ())) else (some ((4 : Int), ()))) else none) else (some ((4 : Int), ()))) else none) else (some ((4 : Int), ())))))) := by kernel_rfl
theorem S_bv (h_bp : C_bp (fun _ => true) g_bp) (h_bo : C_bo (fun _ => true) g_bo) (h_br : C_br p_br g_br) (h_bu : C_bu p_bu g_bu) {pre : In_bv -> Bool} {fn : In_bv -> Out_bv} (hev : ∀ x, pre x = true -> ∃ k, E_bv g_bp g_bo g_br p_br g_bu p_bu k x = some (fn x)) : C_bv pre fn := sound tysOk mixed (fn := Tryz.f180) rfl rfl rfl (.cons h_bp (.cons h_bo (.cons h_br (.cons h_bu .nil)))) _ hev
end
/-! bw: iTstOk -/
abbrev M_bw : List Vm.Mode := [.imm S_TstTest]
abbrev R_bw : List (RK × Sh) := [(.imm, .bool)]
abbrev In_bw : Type := (insSh M_bw).den
abbrev Out_bw : Type := (outSh R_bw M_bw).den
abbrev C_bw (pre : In_bw -> Bool) (fn : In_bw -> Out_bw) : Prop := Sound Tryz.prog 110 ⟨M_bw, R_bw, pre, fn⟩
section
variable (g_bj : In_bj -> Out_bj) (g_bd : In_bd -> Out_bd) (g_bn : In_bn -> Out_bn) (p_bn : In_bn -> Bool) (g_iin : In_iin -> Out_iin) (g_bo : In_bo -> Out_bo) (g_bv : In_bv -> Out_bv) (p_bv : In_bv -> Bool) (g_bp : In_bp -> Out_bp)
abbrev X_bw : Ctx := ctx tys 64 (conOf [(177, ⟨M_bj, R_bj, fun _ => true, g_bj⟩), (124, ⟨M_bd, R_bd, fun _ => true, g_bd⟩), (178, ⟨M_bn, R_bn, p_bn, g_bn⟩), (72, ⟨M_iin, R_iin, fun _ => true, g_iin⟩), (179, ⟨M_bo, R_bo, fun _ => true, g_bo⟩), (180, ⟨M_bv, R_bv, p_bv, g_bv⟩), (181, ⟨M_bp, R_bp, fun _ => true, g_bp⟩)]) (keepOf []) (fun _ => [])
noncomputable abbrev E_bw (k : Nat) (x : In_bw) : Option Out_bw := evFn (X_bw g_bj g_bd g_bn p_bn g_iin g_bo g_bv p_bv g_bp) Tryz.f110 R_bw M_bw k x
variable {g_bj g_bd g_bn p_bn g_iin g_bo g_bv p_bv g_bp}
theorem ev_bw (k : Nat) (x0 : Dm (.imm S_TstTest)) : E_bw g_bj g_bd g_bn p_bn g_iin g_bo g_bv p_bv g_bp k (x0, ()) =
  (bif (bif (g_bj (x0.1, ())).1 then false else true) then (some (false, ())) else (bif (bif (g_bd (x0.2.2.1, ())).1 then false else true) then (some (false, ())) else (bif (p_bn (x0.2.2.2.2, ())) then (bif (bif (g_bn (x0.2.2.2.2, ())).1 then false else true) then (some (false, ())) else (bif (bif (g_iin (x0.2.2.2.1, ((0 : Int), ((3 : Int), ())))).1 then false else true) then (some (false, ())) else (bif (decide ((g_bo (x0.2.2.2.1, ())).1 < (List.length x0.2.2.2.2 : Int))) then (some (false, ())) else (bif (decide (x0.2.1 = (0 : Int))) then (bif (Sh.beq S_DecDec x0.2.2.1 ((0 : Int), (0 : Int))) then (some ((decide (x0.2.2.2.1 = (0 : Int))), ())) else (some (false, ()))) else (bif (p_bv (x0, ())) then (bif (decide (x0.2.1 = (g_bv (x0, ())).1)) then (bif (decide (x0.2.2.2.1 = (0 : Int))) then (some (true, ())) else (some ((bif (g_bp (x0.1, (x0.2.2.1, ()))).1 then false else true), ()))) else (some (false, ()))) else none))))) else none))) := by kernel_rfl
theorem S_bw (h_bj : C_bj (fun _ => true) g_bj) (h_bd : C_bd (fun _ => true) g_bd) (h_bn : C_bn p_bn g_bn) (h_iin : C_iin (fun _ => true) g_iin) (h_bo : C_bo (fun _ => true) g_bo) (h_bv : C_bv p_bv g_bv) (h_bp : C_bp (fun _ => true) g_bp) {pre : In_bw -> Bool} {fn : In_bw -> Out_bw} (hev : ∀ x, pre x = true -> ∃ k, E_bw g_bj g_bd g_bn p_bn g_iin g_bo g_bv p_bv g_bp k x = some (fn x)) : C_bw pre fn := sound tysOk mixed (fn := Tryz.f110) rfl rfl rfl (.cons h_bj (.cons h_bd (.cons h_bn (.cons h_iin (.cons h_bo (.cons h_bv (.cons h_bp .nil))))))) _ hev
end
/-! bx: iisUser -/
abbrev M_bx : List Vm.Mode := [.imm I]
abbrev R_bx : List (RK × Sh) := [(.imm, .bool)]
abbrev In_bx : Type := (insSh M_bx).den
abbrev Out_bx : Type := (outSh R_bx M_bx).den
abbrev C_bx (pre : In_bx -> Bool) (fn : In_bx -> Out_bx) : Prop := Sound Tryz.prog 117 ⟨M_bx, R_bx, pre, fn⟩
section
variable (g_iin : In_iin -> Out_iin)
abbrev X_bx : Ctx := ctx tys 5 (conOf [(72, ⟨M_iin, R_iin, fun _ => true, g_iin⟩)]) (keepOf []) (fun _ => [])
noncomputable abbrev E_bx (k : Nat) (x : In_bx) : Option Out_bx := evFn (X_bx g_iin) Tryz.f117 R_bx M_bx k x
variable {g_iin}
theorem ev_bx (k : Nat) (x0 : Dm (.imm I)) : E_bx g_iin k (x0, ()) =
  (some ((g_iin (x0, ((1 : Int), ((5 : Int), ())))).1, ())) := by kernel_rfl
theorem S_bx (h_iin : C_iin (fun _ => true) g_iin) {pre : In_bx -> Bool} {fn : In_bx -> Out_bx} (hev : ∀ x, pre x = true -> ∃ k, E_bx g_iin k x = some (fn x)) : C_bx pre fn := sound tysOk mixed (fn := Tryz.f117) rfl rfl rfl (.cons h_iin .nil) _ hev
end
/-! by: isigns -/
abbrev M_by : List Vm.Mode := [.imm I]
abbrev R_by : List (RK × Sh) := [(.imm, .bool)]
abbrev In_by : Type := (insSh M_by).den
abbrev Out_by : Type := (outSh R_by M_by).den
abbrev C_by (pre : In_by -> Bool) (fn : In_by -> Out_by) : Prop := Sound Tryz.prog 118 ⟨M_by, R_by, pre, fn⟩
abbrev X_by : Ctx := ctx tys 9 (conOf []) (keepOf []) (fun _ => [])
noncomputable abbrev E_by (k : Nat) (x : In_by) : Option Out_by := evFn X_by Tryz.f118 R_by M_by k x
theorem ev_by (k : Nat) (x0 : Dm (.imm I)) : E_by k (x0, ()) =
  (bif (decide (x0 = (2 : Int))) then (some (true, ())) else (some ((decide (x0 = (3 : Int))), ()))) := by kernel_rfl
theorem S_by  {pre : In_by -> Bool} {fn : In_by -> Out_by} (hev : ∀ x, pre x = true -> ∃ k, E_by k x = some (fn x)) : C_by pre fn := sound tysOk mixed (fn := Tryz.f118) rfl rfl rfl ConsOk.nil _ hev
/-! bz: iBatSig_ok -/
abbrev M_bz : List Vm.Mode := [.imm S_BatSig]
abbrev R_bz : List (RK × Sh) := [(.imm, .bool)]
abbrev In_bz : Type := (insSh M_bz).den
abbrev Out_bz : Type := (outSh R_bz M_bz).den
abbrev C_bz (pre : In_bz -> Bool) (fn : In_bz -> Out_bz) : Prop := Sound Tryz.prog 112 ⟨M_bz, R_bz, pre, fn⟩
section
variable (g_bx : In_bx -> Out_bx) (g_by : In_by -> Out_by) (g_iin : In_iin -> Out_iin)
abbrev X_bz : Ctx := ctx tys 16 (conOf [(117, ⟨M_bx, R_bx, fun _ => true, g_bx⟩), (118, ⟨M_by, R_by, fun _ => true, g_by⟩), (72, ⟨M_iin, R_iin, fun _ => true, g_iin⟩)]) (keepOf []) (fun _ => [])
noncomputable abbrev E_bz (k : Nat) (x : In_bz) : Option Out_bz := evFn (X_bz g_bx g_by g_iin) Tryz.f112 R_bz M_bz k x
variable {g_bx g_by g_iin}
theorem ev_bz (k : Nat) (x0 : Dm (.imm S_BatSig)) : E_bz g_bx g_by g_iin k (x0, ()) =
  (bif (g_bx (x0.1, ())).1 then (bif (g_by (x0.2.1, ())).1 then (some ((g_iin (x0.2.2, ((0 : Int), ((999982 : Int), ())))).1, ())) else (some (false, ()))) else (some (false, ()))) := by kernel_rfl
theorem S_bz (h_bx : C_bx (fun _ => true) g_bx) (h_by : C_by (fun _ => true) g_by) (h_iin : C_iin (fun _ => true) g_iin) {pre : In_bz -> Bool} {fn : In_bz -> Out_bz} (hev : ∀ x, pre x = true -> ∃ k, E_bz g_bx g_by g_iin k x = some (fn x)) : C_bz pre fn := sound tysOk mixed (fn := Tryz.f112) rfl rfl rfl (.cons h_bx (.cons h_by (.cons h_iin .nil))) _ hev
end
/-! c0: iBatOk_c1 -/
abbrev M_c0 : List Vm.Mode := [.imm S_BatSig]
abbrev R_c0 : List (RK × Sh) := [(.imm, .bool)]
abbrev In_c0 : Type := (insSh M_c0).den
abbrev Out_c0 : Type := (outSh R_c0 M_c0).den
abbrev C_c0 (pre : In_c0 -> Bool) (fn : In_c0 -> Out_c0) : Prop := Sound Tryz.prog 111 ⟨M_c0, R_c0, pre, fn⟩
section
variable (g_bz : In_bz -> Out_bz)
abbrev X_c0 : Ctx := ctx tys 6 (conOf [(112, ⟨M_bz, R_bz, fun _ => true, g_bz⟩)]) (keepOf []) (fun _ => [])
noncomputable abbrev E_c0 (k : Nat) (x : In_c0) : Option Out_c0 := evFn (X_c0 g_bz) Tryz.f111 R_c0 M_c0 k x
variable {g_bz}
theorem ev_c0 (k : Nat) (x0 : Dm (.imm S_BatSig)) : E_c0 g_bz k (x0, ()) =
  (some ((bif (g_bz (x0, ())).1 then false else true), ())) := by kernel_rfl
theorem S_c0 (h_bz : C_bz (fun _ => true) g_bz) {pre : In_c0 -> Bool} {fn : In_c0 -> Out_c0} (hev : ∀ x, pre x = true -> ∃ k, E_c0 g_bz k x = some (fn x)) : C_c0 pre fn := sound tysOk mixed (fn := Tryz.f111) rfl rfl rfl (.cons h_bz .nil) _ hev
end
/-! c1: gIndexFunc_BatSig__iBatOk_c1 -/
abbrev M_c1 : List Vm.Mode := [.imm L_BatSig, .clo 111 []]
abbrev R_c1 : List (RK × Sh) := [(.imm, I)]
abbrev In_c1 : Type := (insSh M_c1).den
abbrev Out_c1 : Type := (outSh R_c1 M_c1).den
abbrev C_c1 (pre : In_c1 -> Bool) (fn : In_c1 -> Out_c1) : Prop := Sound Tryz.prog 182 ⟨M_c1, R_c1, pre, fn⟩
section
variable (g_c0 : In_c0 -> Out_c0) (p_c0 : In_c0 -> Bool)
abbrev X_c1 : Ctx := ctx tys 19 (conOf [(111, ⟨M_c0, R_c0, p_c0, g_c0⟩)]) (keepOf [(pt0, (⟨[(0, .asis), (1, .asis), (7, .asis), (8, .asis)], [], []⟩ : Keep))]) (fun _ => [])
noncomputable abbrev E_c1 (k : Nat) (x : In_c1) : Option Out_c1 := evFn (X_c1 g_c0 p_c0) Tryz.f182 R_c1 M_c1 k x
def h0_c1 (x0 : Dm (.imm L_BatSig)) (x1 : Dm (.clo 111 [])) (h0 : Dn I) (h1 : Dn I) : St := mkS [(0, (AV.val L_BatSig x0)), (1, (AV.fn 111 [])), (7, (AV.val I h0)), (8, (AV.val I h1))] []
noncomputable def r_c1 (x : In_c1) (k : Nat) (p : List Bool) (s : St) : Option Out_c1 := rounds (X_c1 g_c0 p_c0) Tryz.f182 R_c1 M_c1 x k p s
variable {g_c0 p_c0}
theorem ev_c1 (k : Nat) (x0 : Dm (.imm L_BatSig)) (x1 : Dm (.clo 111 [])) : E_c1 g_c0 p_c0 k (x0, x1, ()) =
  (r_c1 g_c0 p_c0 (x0, x1, ()) k pt0 (h0_c1 x0 x1 (List.length x0 : Int) (0 : Int))) := by kernel_rfl
theorem rd0_c1 (k : Nat) (x0 : Dm (.imm L_BatSig)) (x1 : Dm (.clo 111 [])) (h0 : Dn I) (h1 : Dn I) : r_c1 g_c0 p_c0 (x0, x1, ()) (k + 1) pt0 (h0_c1 x0 x1 h0 h1) =
  (bif (decide (h1 < h0)) then (bif (bif (decide ((0 : Int) <= h1)) then (decide (h1 < (List.length x0 : Int))) else false) then (cl (p_c0 ((rdL (e := S_BatSig) x0 h1), ())) (g_c0 ((rdL (e := S_BatSig) x0 h1), ())) fun y0 => (bif y0.1 then (some (h1, ())) else (r_c1 g_c0 p_c0 (x0, x1, ()) k pt0 (h0_c1 x0 x1 h0 (w64 (h1 + (1 : Int))))))) else none) else (some ((-1 : Int), ()))) := by kernel_rfl
theorem S_c1 (h_c0 : C_c0 p_c0 g_c0) {pre : In_c1 -> Bool} {fn : In_c1 -> Out_c1} (hev : ∀ x, pre x = true -> ∃ k, E_c1 g_c0 p_c0 k x = some (fn x)) : C_c1 pre fn := sound tysOk mixed (fn := Tryz.f182) rfl rfl rfl (.cons h_c0 .nil) _ hev
end
/-! c2: gContainsFunc_BatSig__iBatOk_c1 -/
abbrev M_c2 : List Vm.Mode := [.imm L_BatSig, .clo 111 []]
abbrev R_c2 : List (RK × Sh) := [(.imm, .bool)]
abbrev In_c2 : Type := (insSh M_c2).den
abbrev Out_c2 : Type := (outSh R_c2 M_c2).den
abbrev C_c2 (pre : In_c2 -> Bool) (fn : In_c2 -> Out_c2) : Prop := Sound Tryz.prog 113 ⟨M_c2, R_c2, pre, fn⟩
section
variable (g_c1 : In_c1 -> Out_c1) (p_c1 : In_c1 -> Bool)
abbrev X_c2 : Ctx := ctx tys 9 (conOf [(182, ⟨M_c1, R_c1, p_c1, g_c1⟩)]) (keepOf []) (fun _ => [])
noncomputable abbrev E_c2 (k : Nat) (x : In_c2) : Option Out_c2 := evFn (X_c2 g_c1 p_c1) Tryz.f113 R_c2 M_c2 k x
variable {g_c1 p_c1}
theorem ev_c2 (k : Nat) (x0 : Dm (.imm L_BatSig)) (x1 : Dm (.clo 111 [])) : E_c2 g_c1 p_c1 k (x0, x1, ()) =
  (cl (p_c1 (x0, ((), ()))) (g_c1 (x0, ((), ()))) fun y0 => (some ((decide ((0 : Int) <= y0.1)), ()))) := by kernel_rfl
theorem S_c2 (h_c1 : C_c1 p_c1 g_c1) {pre : In_c2 -> Bool} {fn : In_c2 -> Out_c2} (hev : ∀ x, pre x = true -> ∃ k, E_c2 g_c1 p_c1 k x = some (fn x)) : C_c2 pre fn := sound tysOk mixed (fn := Tryz.f113) rfl rfl rfl (.cons h_c1 .nil) _ hev
end
/-! c3: iBatBatch_gate_c1 -/
abbrev M_c3 : List Vm.Mode := [.imm S_TstTest]
abbrev R_c3 : List (RK × Sh) := [(.imm, .bool)]
abbrev In_c3 : Type := (insSh M_c3).den
abbrev Out_c3 : Type := (outSh R_c3 M_c3).den
abbrev C_c3 (pre : In_c3 -> Bool) (fn : In_c3 -> Out_c3) : Prop := Sound Tryz.prog 167 ⟨M_c3, R_c3, pre, fn⟩
abbrev X_c3 : Ctx := ctx tys 6 (conOf []) (keepOf []) (fun _ => [])
noncomputable abbrev E_c3 (k : Nat) (x : In_c3) : Option Out_c3 := evFn X_c3 Tryz.f167 R_c3 M_c3 k x
theorem ev_c3 (k : Nat) (x0 : Dm (.imm S_TstTest)) : E_c3 k (x0, ()) =
  (some ((bif (decide (x0.2.1 = (3 : Int))) then false else true), ())) := by kernel_rfl
theorem S_c3  {pre : In_c3 -> Bool} {fn : In_c3 -> Out_c3} (hev : ∀ x, pre x = true -> ∃ k, E_c3 k x = some (fn x)) : C_c3 pre fn := sound tysOk mixed (fn := Tryz.f167) rfl rfl rfl ConsOk.nil _ hev
/-! c4: gIndexFunc_TstTest__iBatBatch_gate_c1 -/
abbrev M_c4 : List Vm.Mode := [.imm L_TstTest, .clo 167 []]
abbrev R_c4 : List (RK × Sh) := [(.imm, I)]
abbrev In_c4 : Type := (insSh M_c4).den
abbrev Out_c4 : Type := (outSh R_c4 M_c4).den
abbrev C_c4 (pre : In_c4 -> Bool) (fn : In_c4 -> Out_c4) : Prop := Sound Tryz.prog 101 ⟨M_c4, R_c4, pre, fn⟩
section
variable (g_c3 : In_c3 -> Out_c3)
abbrev X_c4 : Ctx := ctx tys 19 (conOf [(167, ⟨M_c3, R_c3, fun _ => true, g_c3⟩)]) (keepOf [(pt0, (⟨[(0, .asis), (1, .asis), (7, .asis), (8, .asis)], [], []⟩ : Keep))]) (fun _ => [])
noncomputable abbrev E_c4 (k : Nat) (x : In_c4) : Option Out_c4 := evFn (X_c4 g_c3) Tryz.f101 R_c4 M_c4 k x
def h0_c4 (x0 : Dm (.imm L_TstTest)) (x1 : Dm (.clo 167 [])) (h0 : Dn I) (h1 : Dn I) : St := mkS [(0, (AV.val L_TstTest x0)), (1, (AV.fn 167 [])), (7, (AV.val I h0)), (8, (AV.val I h1))] []
noncomputable def r_c4 (x : In_c4) (k : Nat) (p : List Bool) (s : St) : Option Out_c4 := rounds (X_c4 g_c3) Tryz.f101 R_c4 M_c4 x k p s
variable {g_c3}
theorem ev_c4 (k : Nat) (x0 : Dm (.imm L_TstTest)) (x1 : Dm (.clo 167 [])) : E_c4 g_c3 k (x0, x1, ()) =
  (r_c4 g_c3 (x0, x1, ()) k pt0 (h0_c4 x0 x1 (List.length x0 : Int) (0 : Int))) := by kernel_rfl
theorem rd0_c4 (k : Nat) (x0 : Dm (.imm L_TstTest)) (x1 : Dm (.clo 167 [])) (h0 : Dn I) (h1 : Dn I) : r_c4 g_c3 (x0, x1, ()) (k + 1) pt0 (h0_c4 x0 x1 h0 h1) =
  (bif (decide (h1 < h0)) then (bif (bif (decide ((0 : Int) <= h1)) then (decide (h1 < (List.length x0 : Int))) else false) then (bif (g_c3 ((rdL (e := S_TstTest) x0 h1), ())).1 then (some (h1, ())) else (r_c4 g_c3 (x0, x1, ()) k pt0 (h0_c4 x0 x1 h0 (w64 (h1 + (1 : Int)))))) else none) else (some ((-1 : Int), ()))) := by kernel_rfl
theorem S_c4 (h_c3 : C_c3 (fun _ => true) g_c3) {pre : In_c4 -> Bool} {fn : In_c4 -> Out_c4} (hev : ∀ x, pre x = true -> ∃ k, E_c4 g_c3 k x = some (fn x)) : C_c4 pre fn := sound tysOk mixed (fn := Tryz.f101) rfl rfl rfl (.cons h_c3 .nil) _ hev
end
/-! c5: gContainsFunc_TstTest__iBatBatch_gate_c1 -/
abbrev M_c5 : List Vm.Mode := [.imm L_TstTest, .clo 167 []]
abbrev R_c5 : List (RK × Sh) := [(.imm, .bool)]
abbrev In_c5 : Type := (insSh M_c5).den
abbrev Out_c5 : Type := (outSh R_c5 M_c5).den
abbrev C_c5 (pre : In_c5 -> Bool) (fn : In_c5 -> Out_c5) : Prop := Sound Tryz.prog 168 ⟨M_c5, R_c5, pre, fn⟩
section
variable (g_c4 : In_c4 -> Out_c4) (p_c4 : In_c4 -> Bool)
abbrev X_c5 : Ctx := ctx tys 9 (conOf [(101, ⟨M_c4, R_c4, p_c4, g_c4⟩)]) (keepOf []) (fun _ => [])
noncomputable abbrev E_c5 (k : Nat) (x : In_c5) : Option Out_c5 := evFn (X_c5 g_c4 p_c4) Tryz.f168 R_c5 M_c5 k x
variable {g_c4 p_c4}
theorem ev_c5 (k : Nat) (x0 : Dm (.imm L_TstTest)) (x1 : Dm (.clo 167 [])) : E_c5 g_c4 p_c4 k (x0, x1, ()) =
  (cl (p_c4 (x0, ((), ()))) (g_c4 (x0, ((), ()))) fun y0 => (some ((decide ((0 : Int) <= y0.1)), ()))) := by kernel_rfl
theorem S_c5 (h_c4 : C_c4 p_c4 g_c4) {pre : In_c5 -> Bool} {fn : In_c5 -> Out_c5} (hev : ∀ x, pre x = true -> ∃ k, E_c5 g_c4 p_c4 k x = some (fn x)) : C_c5 pre fn := sound tysOk mixed (fn := Tryz.f168) rfl rfl rfl (.cons h_c4 .nil) _ hev
end
/-! c6: gIndex_bool -/
abbrev M_c6 : List Vm.Mode := [.imm L_bool, .imm .bool]
abbrev R_c6 : List (RK × Sh) := [(.imm, I)]
abbrev In_c6 : Type := (insSh M_c6).den
abbrev Out_c6 : Type := (outSh R_c6 M_c6).den
abbrev C_c6 (pre : In_c6 -> Bool) (fn : In_c6 -> Out_c6) : Prop := Sound Tryz.prog 226 ⟨M_c6, R_c6, pre, fn⟩
abbrev X_c6 : Ctx := ctx tys 19 (conOf []) (keepOf [(pt0, (⟨[(0, .asis), (1, .asis), (7, .asis), (8, .asis)], [], []⟩ : Keep))]) (fun _ => [])
noncomputable abbrev E_c6 (k : Nat) (x : In_c6) : Option Out_c6 := evFn X_c6 Tryz.f226 R_c6 M_c6 k x
def h0_c6 (x0 : Dm (.imm L_bool)) (x1 : Dm (.imm .bool)) (h0 : Dn I) (h1 : Dn I) : St := mkS [(0, (AV.val L_bool x0)), (1, (AV.val Sh.bool x1)), (7, (AV.val I h0)), (8, (AV.val I h1))] []
noncomputable def r_c6 (x : In_c6) (k : Nat) (p : List Bool) (s : St) : Option Out_c6 := rounds X_c6 Tryz.f226 R_c6 M_c6 x k p s
theorem ev_c6 (k : Nat) (x0 : Dm (.imm L_bool)) (x1 : Dm (.imm .bool)) : E_c6 k (x0, x1, ()) =
  (r_c6  (x0, x1, ()) k pt0 (h0_c6 x0 x1 (List.length x0 : Int) (0 : Int))) := by kernel_rfl
theorem rd0_c6 (k : Nat) (x0 : Dm (.imm L_bool)) (x1 : Dm (.imm .bool)) (h0 : Dn I) (h1 : Dn I) : r_c6  (x0, x1, ()) (k + 1) pt0 (h0_c6 x0 x1 h0 h1) =
  (bif (decide (h1 < h0)) then (bif (bif (decide ((0 : Int) <= h1)) then (decide (h1 < (List.length x0 : Int))) else false) then (bif (x1 == (rdL (e := Sh.bool) x0 h1)) then (some (h1, ())) else (r_c6  (x0, x1, ()) k pt0 (h0_c6 x0 x1 h0 (w64 (h1 + (1 : Int)))))) else none) else (some ((-1 : Int), ()))) := by kernel_rfl
theorem S_c6  {pre : In_c6 -> Bool} {fn : In_c6 -> Out_c6} (hev : ∀ x, pre x = true -> ∃ k, E_c6 k x = some (fn x)) : C_c6 pre fn := sound tysOk mixed (fn := Tryz.f226) rfl rfl rfl ConsOk.nil _ hev
/-! c7: gContains_bool -/
abbrev M_c7 : List Vm.Mode := [.imm L_bool, .imm .bool]
abbrev R_c7 : List (RK × Sh) := [(.imm, .bool)]
abbrev In_c7 : Type := (insSh M_c7).den
abbrev Out_c7 : Type := (outSh R_c7 M_c7).den
abbrev C_c7 (pre : In_c7 -> Bool) (fn : In_c7 -> Out_c7) : Prop := Sound Tryz.prog 169 ⟨M_c7, R_c7, pre, fn⟩
section
variable (g_c6 : In_c6 -> Out_c6) (p_c6 : In_c6 -> Bool)
abbrev X_c7 : Ctx := ctx tys 9 (conOf [(226, ⟨M_c6, R_c6, p_c6, g_c6⟩)]) (keepOf []) (fun _ => [])
noncomputable abbrev E_c7 (k : Nat) (x : In_c7) : Option Out_c7 := evFn (X_c7 g_c6 p_c6) Tryz.f169 R_c7 M_c7 k x
variable {g_c6 p_c6}
theorem ev_c7 (k : Nat) (x0 : Dm (.imm L_bool)) (x1 : Dm (.imm .bool)) : E_c7 g_c6 p_c6 k (x0, x1, ()) =
  (cl (p_c6 (x0, (x1, ()))) (g_c6 (x0, (x1, ()))) fun y0 => (some ((decide ((0 : Int) <= y0.1)), ()))) := by kernel_rfl
theorem S_c7 (h_c6 : C_c6 p_c6 g_c6) {pre : In_c7 -> Bool} {fn : In_c7 -> Out_c7} (hev : ∀ x, pre x = true -> ∃ k, E_c7 g_c6 p_c6 k x = some (fn x)) : C_c7 pre fn := sound tysOk mixed (fn := Tryz.f169) rfl rfl rfl (.cons h_c6 .nil) _ hev
end
/-! c8: imixed -/
abbrev M_c8 : List Vm.Mode := [.imm I, .imm L_int]
abbrev R_c8 : List (RK × Sh) := [(.imm, I)]
abbrev In_c8 : Type := (insSh M_c8).den
abbrev Out_c8 : Type := (outSh R_c8 M_c8).den
abbrev C_c8 (pre : In_c8 -> Bool) (fn : In_c8 -> Out_c8) : Prop := Sound Tryz.prog 109 ⟨M_c8, R_c8, pre, fn⟩
abbrev X_c8 : Ctx := ctx tys 23 (conOf []) (keepOf [(pt0, (⟨[(0, .asis), (7, .asis), (8, .asis), (9, .asis)], [], []⟩ : Keep))]) (fun _ => [])
noncomputable abbrev E_c8 (k : Nat) (x : In_c8) : Option Out_c8 := evFn X_c8 Tryz.f109 R_c8 M_c8 k x
def h0_c8 (x0 : Dm (.imm I)) (x1 : Dm (.imm L_int)) (h0 : Dn I) (h1 : Dn I) (h2 : Dn I) : St := mkS [(0, (AV.val I h0)), (7, (AV.val L_int x1)), (8, (AV.val I h1)), (9, (AV.val I h2))] []
noncomputable def r_c8 (x : In_c8) (k : Nat) (p : List Bool) (s : St) : Option Out_c8 := rounds X_c8 Tryz.f109 R_c8 M_c8 x k p s
theorem ev_c8 (k : Nat) (x0 : Dm (.imm I)) (x1 : Dm (.imm L_int)) : E_c8 k (x0, x1, ()) =
  (r_c8  (x0, x1, ()) k pt0 (h0_c8 x0 x1 x0 (List.length x1 : Int) (0 : Int))) := by kernel_rfl
theorem rd0_c8 (k : Nat) (x0 : Dm (.imm I)) (x1 : Dm (.imm L_int)) (h0 : Dn I) (h1 : Dn I) (h2 : Dn I) : r_c8  (x0, x1, ()) (k + 1) pt0 (h0_c8 x0 x1 h0 h1 h2) =
  (bif (decide (h2 < h1)) then (bif (bif (decide ((0 : Int) <= h2)) then (decide (h2 < (List.length x1 : Int))) else false) then (bif (bif (decide ((999983 : Int) = (0 : Int))) then false else true) then (bif (bif (decide ((999983 : Int) = (0 : Int))) then false else true) then (r_c8  (x0, x1, ()) k pt0 (h0_c8 x0 x1 (Int.tmod (w64 ((w64 ((w64 ((w64 (h0 * (8191 : Int))) + (Int.tmod (rdL (e := I) x1 h2) (999983 : Int)))) + (999983 : Int))) + (7 : Int))) (999983 : Int)) h1 (w64 (h2 + (1 : Int))))) else none) else none) else none) else (some (h0, ()))) := by kernel_rfl
theorem S_c8  {pre : In_c8 -> Bool} {fn : In_c8 -> Out_c8} (hev : ∀ x, pre x = true -> ∃ k, E_c8 k x = some (fn x)) : C_c8 pre fn := sound tysOk mixed (fn := Tryz.f109) rfl rfl rfl ConsOk.nil _ hev
/-! c9: iBatMark -/
abbrev M_c9 : List Vm.Mode := [.imm S_BatBatch]
abbrev R_c9 : List (RK × Sh) := [(.imm, I)]
abbrev In_c9 : Type := (insSh M_c9).den
abbrev Out_c9 : Type := (outSh R_c9 M_c9).den
abbrev C_c9 (pre : In_c9 -> Bool) (fn : In_c9 -> Out_c9) : Prop := Sound Tryz.prog 35 ⟨M_c9, R_c9, pre, fn⟩
section
variable (g_c8 : In_c8 -> Out_c8) (p_c8 : In_c8 -> Bool)
abbrev X_c9 : Ctx := ctx tys 69 (conOf [(109, ⟨M_c8, R_c8, p_c8, g_c8⟩)]) (keepOf [(pt2, (⟨[(3, .asis), (51, .asis), (52, .asis), (53, .asis)], [], []⟩ : Keep)), (pt5, (⟨[(1, .asis), (3, .asis), (15, .asis), (16, .asis), (17, .asis), (35, .asis), (36, .asis), (37, .asis)], [(1, .asis)], []⟩ : Keep)), (pt1, (⟨[(1, .asis), (3, .asis), (15, .asis), (16, .asis), (17, .asis)], [(1, .asis)], []⟩ : Keep))]) (fun _ => [])
noncomputable abbrev E_c9 (k : Nat) (x : In_c9) : Option Out_c9 := evFn (X_c9 g_c8 p_c8) Tryz.f35 R_c9 M_c9 k x
def h0_c9 (x0 : Dm (.imm S_BatBatch)) (h0 : Dn I) (h1 : Dn I) (h2 : Dn I) : St := mkS [(1, (AV.ptr 1 none [])), (3, (AV.val I h0)), (15, (AV.val L_TstTest x0.2.2.1)), (16, (AV.val I h1)), (17, (AV.val I h2))] [(1, (Ob.box S_BatBatch (AV.val S_BatBatch x0)))]
def h1_c9 (x0 : Dm (.imm S_BatBatch)) (h0 : Dn I) (h1 : Dn I) (h2 : Dn I) (h3 : Dn L_DecDec) (h4 : Dn I) (h5 : Dn I) : St := mkS [(1, (AV.ptr 1 none [])), (3, (AV.val I h0)), (15, (AV.val L_TstTest x0.2.2.1)), (16, (AV.val I h1)), (17, (AV.val I h2)), (35, (AV.val L_DecDec h3)), (36, (AV.val I h4)), (37, (AV.val I h5))] [(1, (Ob.box S_BatBatch (AV.val S_BatBatch x0)))]
def h2_c9 (x0 : Dm (.imm S_BatBatch)) (h0 : Dn I) (h1 : Dn I) (h2 : Dn I) : St := mkS [(3, (AV.val I h0)), (51, (AV.val L_bool x0.2.2.2.2.2)), (52, (AV.val I h1)), (53, (AV.val I h2))] []
noncomputable def r_c9 (x : In_c9) (k : Nat) (p : List Bool) (s : St) : Option Out_c9 := rounds (X_c9 g_c8 p_c8) Tryz.f35 R_c9 M_c9 x k p s
variable {g_c8 p_c8}
theorem ev_c9 (k : Nat) (x0 : Dm (.imm S_BatBatch)) : E_c9 g_c8 p_c8 k (x0, ()) =
  (cl (p_c8 ((1 : Int), ([x0.1], ()))) (g_c8 ((1 : Int), ([x0.1], ()))) fun y0 => (r_c9 g_c8 p_c8 (x0, ()) k pt1 (h0_c9 x0 (y0.1) (List.length x0.2.2.1 : Int) (0 : Int)))) := by kernel_rfl
theorem rd0_c9 (k : Nat) (x0 : Dm (.imm S_BatBatch)) (h0 : Dn I) (h1 : Dn I) (h2 : Dn I) : r_c9 g_c8 p_c8 (x0, ()) (k + 1) pt1 (h0_c9 x0 h0 h1 h2) =
  (lt (rdL (e := S_TstTest) x0.2.2.1 h2) fun s0 => (bif (decide (h2 < h1)) then (bif (bif (decide ((0 : Int) <= h2)) then (decide (h2 < (List.length x0.2.2.1 : Int))) else false) then (cl (p_c8 (h0, ([(s0.2.1), (s0.2.2.1.1), (s0.2.2.1.2), (s0.2.2.2.1)], ()))) (g_c8 (h0, ([(s0.2.1), (s0.2.2.1.1), (s0.2.2.1.2), (s0.2.2.2.1)], ()))) fun y0 => (r_c9 g_c8 p_c8 (x0, ()) k pt5 (h1_c9 x0 (y0.1) h1 h2 (s0.2.2.2.2) (List.length s0.2.2.2.2 : Int) (0 : Int)))) else none) else (r_c9 g_c8 p_c8 (x0, ()) k pt2 (h2_c9 x0 h0 (List.length x0.2.2.2.2.2 : Int) (0 : Int))))) := by kernel_rfl
theorem rd1_c9 (k : Nat) (x0 : Dm (.imm S_BatBatch)) (h0 : Dn I) (h1 : Dn I) (h2 : Dn I) (h3 : Dn L_DecDec) (h4 : Dn I) (h5 : Dn I) : r_c9 g_c8 p_c8 (x0, ()) (k + 1) pt5 (h1_c9 x0 h0 h1 h2 h3 h4 h5) =
  (bif (decide (h5 < h4)) then (bif (bif (decide ((0 : Int) <= h5)) then (decide (h5 < (List.length h3 : Int))) else false) then (cl (p_c8 (h0, ([((rdL (e := S_DecDec) h3 h5).1), ((rdL (e := S_DecDec) h3 h5).2)], ()))) (g_c8 (h0, ([((rdL (e := S_DecDec) h3 h5).1), ((rdL (e := S_DecDec) h3 h5).2)], ()))) fun y0 => (r_c9 g_c8 p_c8 (x0, ()) k pt5 (h1_c9 x0 (y0.1) h1 h2 h3 h4 (w64 (h5 + (1 : Int)))))) else none) else (r_c9 g_c8 p_c8 (x0, ()) k pt1 (h0_c9 x0 h0 h1 (w64 (h2 + (1 : Int)))))) := by kernel_rfl
theorem rd2_c9 (k : Nat) (x0 : Dm (.imm S_BatBatch)) (h0 : Dn I) (h1 : Dn I) (h2 : Dn I) : r_c9 g_c8 p_c8 (x0, ()) (k + 1) pt2 (h2_c9 x0 h0 h1 h2) =
  (bif (decide (h2 < h1)) then (bif (bif (decide ((0 : Int) <= h2)) then (decide (h2 < (List.length x0.2.2.2.2.2 : Int))) else false) then (cl (p_c8 (h0, ([(w64 (h2 + (1 : Int)))], ()))) (g_c8 (h0, ([(w64 (h2 + (1 : Int)))], ()))) fun y0 => (bif (rdL (e := Sh.bool) x0.2.2.2.2.2 h2) then (cl (p_c8 (y0.1, ([(77 : Int)], ()))) (g_c8 (y0.1, ([(77 : Int)], ()))) fun y1 => (r_c9 g_c8 p_c8 (x0, ()) k pt2 (h2_c9 x0 (y1.1) h1 (w64 (h2 + (1 : Int)))))) else (r_c9 g_c8 p_c8 (x0, ()) k pt2 (h2_c9 x0 (y0.1) h1 (w64 (h2 + (1 : Int))))))) else none) else (some (h0, ()))) := by kernel_rfl
theorem S_c9 (h_c8 : C_c8 p_c8 g_c8) {pre : In_c9 -> Bool} {fn : In_c9 -> Out_c9} (hev : ∀ x, pre x = true -> ∃ k, E_c9 g_c8 p_c8 k x = some (fn x)) : C_c9 pre fn := sound tysOk mixed (fn := Tryz.f35) rfl rfl rfl (.cons h_c8 .nil) _ hev
end
/-! ca: iBatSigned -/
abbrev M_ca : List Vm.Mode := [.imm S_BatBatch, .imm I, .imm I]
abbrev R_ca : List (RK × Sh) := [(.imm, I)]
abbrev In_ca : Type := (insSh M_ca).den
abbrev Out_ca : Type := (outSh R_ca M_ca).den
abbrev C_ca (pre : In_ca -> Bool) (fn : In_ca -> Out_ca) : Prop := Sound Tryz.prog 45 ⟨M_ca, R_ca, pre, fn⟩
section
variable (g_c9 : In_c9 -> Out_c9) (p_c9 : In_c9 -> Bool)
abbrev X_ca : Ctx := ctx tys 38 (conOf [(35, ⟨M_c9, R_c9, p_c9, g_c9⟩)]) (keepOf [(pt1, (⟨[(1, .asis), (2, .asis), (7, .asis), (13, .asis), (14, .asis), (15, .asis)], [], []⟩ : Keep))]) (fun _ => [])
noncomputable abbrev E_ca (k : Nat) (x : In_ca) : Option Out_ca := evFn (X_ca g_c9 p_c9) Tryz.f45 R_ca M_ca k x
def h0_ca (x0 : Dm (.imm S_BatBatch)) (x1 : Dm (.imm I)) (x2 : Dm (.imm I)) (h0 : Dn I) (h1 : Dn I) (h2 : Dn I) : St := mkS [(1, (AV.val I x1)), (2, (AV.val I x2)), (7, (AV.val I h0)), (13, (AV.val L_BatSig x0.2.2.2.2.1)), (14, (AV.val I h1)), (15, (AV.val I h2))] []
noncomputable def r_ca (x : In_ca) (k : Nat) (p : List Bool) (s : St) : Option Out_ca := rounds (X_ca g_c9 p_c9) Tryz.f45 R_ca M_ca x k p s
variable {g_c9 p_c9}
theorem ev_ca (k : Nat) (x0 : Dm (.imm S_BatBatch)) (x1 : Dm (.imm I)) (x2 : Dm (.imm I)) : E_ca g_c9 p_c9 k (x0, x1, x2, ()) =
  (cl (p_c9 (x0, ())) (g_c9 (x0, ())) fun y0 => (r_ca g_c9 p_c9 (x0, x1, x2, ()) k pt1 (h0_ca x0 x1 x2 (y0.1) (List.length x0.2.2.2.2.1 : Int) (0 : Int)))) := by kernel_rfl
theorem rd0_ca (k : Nat) (x0 : Dm (.imm S_BatBatch)) (x1 : Dm (.imm I)) (x2 : Dm (.imm I)) (h0 : Dn I) (h1 : Dn I) (h2 : Dn I) : r_ca g_c9 p_c9 (x0, x1, x2, ()) (k + 1) pt1 (h0_ca x0 x1 x2 h0 h1 h2) =
  (bif (decide (h2 < h1)) then (bif (bif (decide ((0 : Int) <= h2)) then (decide (h2 < (List.length x0.2.2.2.2.1 : Int))) else false) then (bif (decide ((rdL (e := S_BatSig) x0.2.2.2.2.1 h2).2.1 = x1)) then (bif (decide ((rdL (e := S_BatSig) x0.2.2.2.2.1 h2).2.2 = h0)) then (bif (bif (decide ((rdL (e := S_BatSig) x0.2.2.2.2.1 h2).1 = x2)) then false else true) then (some ((rdL (e := S_BatSig) x0.2.2.2.2.1 h2).1, ())) else (r_ca g_c9 p_c9 (x0, x1, x2, ()) k pt1 (h0_ca x0 x1 x2 h0 h1 (w64 (h2 + (1 : Int)))))) else (r_ca g_c9 p_c9 (x0, x1, x2, ()) k pt1 (h0_ca x0 x1 x2 h0 h1 (w64 (h2 + (1 : Int)))))) else (r_ca g_c9 p_c9 (x0, x1, x2, ()) k pt1 (h0_ca x0 x1 x2 h0 h1 (w64 (h2 + (1 : Int)))))) else none) else (some ((0 : Int), ()))) := by kernel_rfl
theorem S_ca (h_c9 : C_c9 p_c9 g_c9) {pre : In_ca -> Bool} {fn : In_ca -> Out_ca} (hev : ∀ x, pre x = true -> ∃ k, E_ca g_c9 p_c9 k x = some (fn x)) : C_ca pre fn := sound tysOk mixed (fn := Tryz.f45) rfl rfl rfl (.cons h_c9 .nil) _ hev
end
/-! cb: iBatBatch_gate_c2 -/
abbrev M_cb : List Vm.Mode := [.imm S_BatSig, .pR I, .pR S_BatBatch]
abbrev R_cb : List (RK × Sh) := [(.imm, .bool)]
abbrev In_cb : Type := (insSh M_cb).den
abbrev Out_cb : Type := (outSh R_cb M_cb).den
abbrev C_cb (pre : In_cb -> Bool) (fn : In_cb -> Out_cb) : Prop := Sound Tryz.prog 170 ⟨M_cb, R_cb, pre, fn⟩
section
variable (g_ca : In_ca -> Out_ca) (p_ca : In_ca -> Bool)
abbrev X_cb : Ctx := ctx tys 21 (conOf [(45, ⟨M_ca, R_ca, p_ca, g_ca⟩)]) (keepOf []) (fun _ => [])
noncomputable abbrev E_cb (k : Nat) (x : In_cb) : Option Out_cb := evFn (X_cb g_ca p_ca) Tryz.f170 R_cb M_cb k x
variable {g_ca p_ca}
theorem ev_cb (k : Nat) (x0 : Dm (.imm S_BatSig)) (x1 : Dm (.pR I)) (x2 : Dm (.pR S_BatBatch)) : E_cb g_ca p_ca k (x0, x1, x2, ()) =
  (bif (decide (x0.2.1 = (2 : Int))) then (bif (decide (x0.2.2 = x1)) then (cl (p_ca (x2, ((3 : Int), (x0.1, ())))) (g_ca (x2, ((3 : Int), (x0.1, ())))) fun y0 => (some ((decide ((0 : Int) < y0.1)), ()))) else (some (false, ()))) else (some (false, ()))) := by kernel_rfl
theorem S_cb (h_ca : C_ca p_ca g_ca) {pre : In_cb -> Bool} {fn : In_cb -> Out_cb} (hev : ∀ x, pre x = true -> ∃ k, E_cb g_ca p_ca k x = some (fn x)) : C_cb pre fn := sound tysOk mixed (fn := Tryz.f170) rfl rfl rfl (.cons h_ca .nil) _ hev
end
/-! cc: gIndexFunc_BatSig__iBatBatch_gate_c2 -/
abbrev M_cc : List Vm.Mode := [.imm L_BatSig, .clo 170 [I, S_BatBatch]]
abbrev R_cc : List (RK × Sh) := [(.imm, I)]
abbrev In_cc : Type := (insSh M_cc).den
abbrev Out_cc : Type := (outSh R_cc M_cc).den
abbrev C_cc (pre : In_cc -> Bool) (fn : In_cc -> Out_cc) : Prop := Sound Tryz.prog 182 ⟨M_cc, R_cc, pre, fn⟩
section
variable (g_cb : In_cb -> Out_cb) (p_cb : In_cb -> Bool)
abbrev X_cc : Ctx := ctx tys 19 (conOf [(170, ⟨M_cb, R_cb, p_cb, g_cb⟩)]) (keepOf [(pt0, (⟨[(0, .asis), (1, .asis), (7, .asis), (8, .asis)], [(1000005000, .asis), (1000005001, .asis)], []⟩ : Keep))]) (fun _ => [])
noncomputable abbrev E_cc (k : Nat) (x : In_cc) : Option Out_cc := evFn (X_cc g_cb p_cb) Tryz.f182 R_cc M_cc k x
def h0_cc (x0 : Dm (.imm L_BatSig)) (x1 : Dm (.clo 170 [I, S_BatBatch])) (h0 : Dn I) (h1 : Dn I) : St := mkS [(0, (AV.val L_BatSig x0)), (1, (AV.fn 170 [1000005000, 1000005001])), (7, (AV.val I h0)), (8, (AV.val I h1))] [(1000005000, (Ob.cbox I x1.1)), (1000005001, (Ob.cbox S_BatBatch x1.2.1))]
noncomputable def r_cc (x : In_cc) (k : Nat) (p : List Bool) (s : St) : Option Out_cc := rounds (X_cc g_cb p_cb) Tryz.f182 R_cc M_cc x k p s
variable {g_cb p_cb}
theorem ev_cc (k : Nat) (x0 : Dm (.imm L_BatSig)) (x1 : Dm (.clo 170 [I, S_BatBatch])) : E_cc g_cb p_cb k (x0, x1, ()) =
  (r_cc g_cb p_cb (x0, x1, ()) k pt0 (h0_cc x0 x1 (List.length x0 : Int) (0 : Int))) := by kernel_rfl
theorem rd0_cc (k : Nat) (x0 : Dm (.imm L_BatSig)) (x1 : Dm (.clo 170 [I, S_BatBatch])) (h0 : Dn I) (h1 : Dn I) : r_cc g_cb p_cb (x0, x1, ()) (k + 1) pt0 (h0_cc x0 x1 h0 h1) =
  (bif (decide (h1 < h0)) then (bif (bif (decide ((0 : Int) <= h1)) then (decide (h1 < (List.length x0 : Int))) else false) then (cl (p_cb ((rdL (e := S_BatSig) x0 h1), (x1.1, (x1.2.1, ())))) (g_cb ((rdL (e := S_BatSig) x0 h1), (x1.1, (x1.2.1, ())))) fun y0 => (bif y0.1 then (some (h1, ())) else (r_cc g_cb p_cb (x0, x1, ()) k pt0 (h0_cc x0 x1 h0 (w64 (h1 + (1 : Int))))))) else none) else (some ((-1 : Int), ()))) := by kernel_rfl
theorem S_cc (h_cb : C_cb p_cb g_cb) {pre : In_cc -> Bool} {fn : In_cc -> Out_cc} (hev : ∀ x, pre x = true -> ∃ k, E_cc g_cb p_cb k x = some (fn x)) : C_cc pre fn := sound tysOk mixed (fn := Tryz.f182) rfl rfl rfl (.cons h_cb .nil) _ hev
end
/-! cd: gContainsFunc_BatSig__iBatBatch_gate_c2 -/
abbrev M_cd : List Vm.Mode := [.imm L_BatSig, .clo 170 [I, S_BatBatch]]
abbrev R_cd : List (RK × Sh) := [(.imm, .bool)]
abbrev In_cd : Type := (insSh M_cd).den
abbrev Out_cd : Type := (outSh R_cd M_cd).den
abbrev C_cd (pre : In_cd -> Bool) (fn : In_cd -> Out_cd) : Prop := Sound Tryz.prog 113 ⟨M_cd, R_cd, pre, fn⟩
section
variable (g_cc : In_cc -> Out_cc) (p_cc : In_cc -> Bool)
abbrev X_cd : Ctx := ctx tys 9 (conOf [(182, ⟨M_cc, R_cc, p_cc, g_cc⟩)]) (keepOf []) (fun _ => [])
noncomputable abbrev E_cd (k : Nat) (x : In_cd) : Option Out_cd := evFn (X_cd g_cc p_cc) Tryz.f113 R_cd M_cd k x
variable {g_cc p_cc}
theorem ev_cd (k : Nat) (x0 : Dm (.imm L_BatSig)) (x1 : Dm (.clo 170 [I, S_BatBatch])) : E_cd g_cc p_cc k (x0, x1, ()) =
  (cl (p_cc (x0, ((x1.1, (x1.2.1, ())), ()))) (g_cc (x0, ((x1.1, (x1.2.1, ())), ()))) fun y0 => (some ((decide ((0 : Int) <= y0.1)), ()))) := by kernel_rfl
theorem S_cd (h_cc : C_cc p_cc g_cc) {pre : In_cd -> Bool} {fn : In_cd -> Out_cd} (hev : ∀ x, pre x = true -> ∃ k, E_cd g_cc p_cc k x = some (fn x)) : C_cd pre fn := sound tysOk mixed (fn := Tryz.f113) rfl rfl rfl (.cons h_cc .nil) _ hev
end
/-! ce: iBatBatch_gate -/
abbrev M_ce : List Vm.Mode := [.imm S_BatBatch]
abbrev R_ce : List (RK × Sh) := [(.imm, .bool)]
abbrev In_ce : Type := (insSh M_ce).den
abbrev Out_ce : Type := (outSh R_ce M_ce).den
abbrev C_ce (pre : In_ce -> Bool) (fn : In_ce -> Out_ce) : Prop := Sound Tryz.prog 105 ⟨M_ce, R_ce, pre, fn⟩
section
variable (g_c5 : In_c5 -> Out_c5) (p_c5 : In_c5 -> Bool) (g_c7 : In_c7 -> Out_c7) (p_c7 : In_c7 -> Bool) (g_c9 : In_c9 -> Out_c9) (p_c9 : In_c9 -> Bool) (g_cd : In_cd -> Out_cd) (p_cd : In_cd -> Bool)
abbrev X_ce : Ctx := ctx tys 20 (conOf [(168, ⟨M_c5, R_c5, p_c5, g_c5⟩), (169, ⟨M_c7, R_c7, p_c7, g_c7⟩), (35, ⟨M_c9, R_c9, p_c9, g_c9⟩), (113, ⟨M_cd, R_cd, p_cd, g_cd⟩)]) (keepOf []) (fun _ => [])
noncomputable abbrev E_ce (k : Nat) (x : In_ce) : Option Out_ce := evFn (X_ce g_c5 p_c5 g_c7 p_c7 g_c9 p_c9 g_cd p_cd) Tryz.f105 R_ce M_ce k x
variable {g_c5 p_c5 g_c7 p_c7 g_c9 p_c9 g_cd p_cd}
theorem ev_ce (k : Nat) (x0 : Dm (.imm S_BatBatch)) : E_ce g_c5 p_c5 g_c7 p_c7 g_c9 p_c9 g_cd p_cd k (x0, ()) =
  (cl (p_c5 (x0.2.2.1, ((), ()))) (g_c5 (x0.2.2.1, ((), ()))) fun y0 => (bif y0.1 then (some (false, ())) else (cl (p_c7 (x0.2.2.2.2.2, (true, ()))) (g_c7 (x0.2.2.2.2.2, (true, ()))) fun y1 => (bif y1.1 then (some (false, ())) else (cl (p_c9 (x0, ())) (g_c9 (x0, ())) fun y2 => (cl (p_cd (x0.2.2.2.2.1, ((y2.1, (x0, ())), ()))) (g_cd (x0.2.2.2.2.1, ((y2.1, (x0, ())), ()))) fun y3 => (some (y3.1, ())))))))) := by kernel_rfl
theorem S_ce (h_c5 : C_c5 p_c5 g_c5) (h_c7 : C_c7 p_c7 g_c7) (h_c9 : C_c9 p_c9 g_c9) (h_cd : C_cd p_cd g_cd) {pre : In_ce -> Bool} {fn : In_ce -> Out_ce} (hev : ∀ x, pre x = true -> ∃ k, E_ce g_c5 p_c5 g_c7 p_c7 g_c9 p_c9 g_cd p_cd k x = some (fn x)) : C_ce pre fn := sound tysOk mixed (fn := Tryz.f105) rfl rfl rfl (.cons h_c5 (.cons h_c7 (.cons h_c9 (.cons h_cd .nil)))) _ hev
end
/-! cf: iBatOk -/
abbrev M_cf : List Vm.Mode := [.imm S_BatBatch]
abbrev R_cf : List (RK × Sh) := [(.imm, .bool)]
abbrev In_cf : Type := (insSh M_cf).den
abbrev Out_cf : Type := (outSh R_cf M_cf).den
abbrev C_cf (pre : In_cf -> Bool) (fn : In_cf -> Out_cf) : Prop := Sound Tryz.prog 37 ⟨M_cf, R_cf, pre, fn⟩
section
variable (g_iin : In_iin -> Out_iin) (g_bw : In_bw -> Out_bw) (p_bw : In_bw -> Bool) (g_c2 : In_c2 -> Out_c2) (p_c2 : In_c2 -> Bool) (g_ce : In_ce -> Out_ce) (p_ce : In_ce -> Bool)
abbrev X_cf : Ctx := ctx tys 87 (conOf [(72, ⟨M_iin, R_iin, fun _ => true, g_iin⟩), (110, ⟨M_bw, R_bw, p_bw, g_bw⟩), (113, ⟨M_c2, R_c2, p_c2, g_c2⟩), (105, ⟨M_ce, R_ce, p_ce, g_ce⟩)]) (keepOf [(pt1, (⟨[(1, .asis), (30, .asis), (31, .asis), (32, .asis)], [(1, .asis)], []⟩ : Keep))]) (fun _ => [])
noncomputable abbrev E_cf (k : Nat) (x : In_cf) : Option Out_cf := evFn (X_cf g_iin g_bw p_bw g_c2 p_c2 g_ce p_ce) Tryz.f37 R_cf M_cf k x
def h0_cf (x0 : Dm (.imm S_BatBatch)) (h0 : Dn I) (h1 : Dn I) : St := mkS [(1, (AV.ptr 1 none [])), (30, (AV.val L_TstTest x0.2.2.1)), (31, (AV.val I h0)), (32, (AV.val I h1))] [(1, (Ob.box S_BatBatch (AV.val S_BatBatch x0)))]
noncomputable def r_cf (x : In_cf) (k : Nat) (p : List Bool) (s : St) : Option Out_cf := rounds (X_cf g_iin g_bw p_bw g_c2 p_c2 g_ce p_ce) Tryz.f37 R_cf M_cf x k p s
variable {g_iin g_bw p_bw g_c2 p_c2 g_ce p_ce}
theorem ev_cf (k : Nat) (x0 : Dm (.imm S_BatBatch)) : E_cf g_iin g_bw p_bw g_c2 p_c2 g_ce p_ce k (x0, ()) =
  (bif (bif (g_iin (x0.1, ((0 : Int), ((5 : Int), ())))).1 then false else true) then (some (false, ())) else (bif (bif (g_iin (x0.2.1, ((1 : Int), ((10000 : Int), ())))).1 then false else true) then (some (false, ())) else (bif (bif (g_iin ((List.length x0.2.2.1 : Int), ((1 : Int), ((4 : Int), ())))).1 then false else true) then (some (false, ())) else (bif (bif (g_iin (x0.2.2.2.1, ((1 : Int), ((4 : Int), ())))).1 then false else true) then (some (false, ())) else (r_cf g_iin g_bw p_bw g_c2 p_c2 g_ce p_ce (x0, ()) k pt1 (h0_cf x0 (List.length x0.2.2.1 : Int) (0 : Int))))))) := by kernel_rfl
theorem rd0_cf (k : Nat) (x0 : Dm (.imm S_BatBatch)) (h0 : Dn I) (h1 : Dn I) : r_cf g_iin g_bw p_bw g_c2 p_c2 g_ce p_ce (x0, ()) (k + 1) pt1 (h0_cf x0 h0 h1) =
  (lt (rdL (e := S_TstTest) x0.2.2.1 h1) fun s1 => (lt (w64 (h1 - (1 : Int))) fun s0 => (bif (decide (h1 < h0)) then (bif (bif (decide ((0 : Int) <= h1)) then (decide (h1 < (List.length x0.2.2.1 : Int))) else false) then (cl (p_bw (s1, ())) (g_bw (s1, ())) fun y0 => (bif (bif y0.1 then false else true) then (some (false, ())) else (bif (decide ((0 : Int) < h1)) then (bif (bif (decide ((0 : Int) <= s0)) then (decide (s0 < (List.length x0.2.2.1 : Int))) else false) then (bif (decide (s1.1.1 <= (rdL (e := S_TstTest) x0.2.2.1 s0).1.1)) then (some (false, ())) else (r_cf g_iin g_bw p_bw g_c2 p_c2 g_ce p_ce (x0, ()) k pt1 (h0_cf x0 h0 (w64 (h1 + (1 : Int)))))) else none) else (r_cf g_iin g_bw p_bw g_c2 p_c2 g_ce p_ce (x0, ()) k pt1 (h0_cf x0 h0 (w64 (h1 + (1 : Int)))))))) else none) else (bif (decide ((6 : Int) < (List.length x0.2.2.2.2.1 : Int))) then (some (false, ())) else (cl (p_c2 (x0.2.2.2.2.1, ((), ()))) (g_c2 (x0.2.2.2.2.1, ((), ()))) fun y1 => (bif y1.1 then (some (false, ())) else (bif (decide ((3 : Int) < (List.length x0.2.2.2.2.2 : Int))) then (some (false, ())) else (bif (bif (decide (x0.2.2.2.1 = (2 : Int))) then false else true) then (bif (bif (decide (x0.2.2.2.1 = (4 : Int))) then false else true) then (some (true, ())) else (cl (p_ce (x0, ())) (g_ce (x0, ())) fun y2 => (some (y2.1, ())))) else (cl (p_ce (x0, ())) (g_ce (x0, ())) fun y3 => (some (y3.1, ()))))))))))) := by kernel_rfl
theorem S_cf (h_iin : C_iin (fun _ => true) g_iin) (h_bw : C_bw p_bw g_bw) (h_c2 : C_c2 p_c2 g_c2) (h_ce : C_ce p_ce g_ce) {pre : In_cf -> Bool} {fn : In_cf -> Out_cf} (hev : ∀ x, pre x = true -> ∃ k, E_cf g_iin g_bw p_bw g_c2 p_c2 g_ce p_ce k x = some (fn x)) : C_cf pre fn := sound tysOk mixed (fn := Tryz.f37) rfl rfl rfl (.cons h_iin (.cons h_bw (.cons h_c2 (.cons h_ce .nil)))) _ hev
end
/-! cg: iBatTest_c1_c1 -/
abbrev M_cg : List Vm.Mode := [.imm S_TstTest, .pR I]
abbrev R_cg : List (RK × Sh) := [(.imm, .bool)]
abbrev In_cg : Type := (insSh M_cg).den
abbrev Out_cg : Type := (outSh R_cg M_cg).den
abbrev C_cg (pre : In_cg -> Bool) (fn : In_cg -> Out_cg) : Prop := Sound Tryz.prog 102 ⟨M_cg, R_cg, pre, fn⟩
abbrev X_cg : Ctx := ctx tys 9 (conOf []) (keepOf []) (fun _ => [])
noncomputable abbrev E_cg (k : Nat) (x : In_cg) : Option Out_cg := evFn X_cg Tryz.f102 R_cg M_cg k x
theorem ev_cg (k : Nat) (x0 : Dm (.imm S_TstTest)) (x1 : Dm (.pR I)) : E_cg k (x0, x1, ()) =
  (some ((decide (x0.1.1 = x1)), ())) := by kernel_rfl
theorem S_cg  {pre : In_cg -> Bool} {fn : In_cg -> Out_cg} (hev : ∀ x, pre x = true -> ∃ k, E_cg k x = some (fn x)) : C_cg pre fn := sound tysOk mixed (fn := Tryz.f102) rfl rfl rfl ConsOk.nil _ hev
/-! ch: gIndexFunc_TstTest__iBatTest_c1_c1 -/
abbrev M_ch : List Vm.Mode := [.imm L_TstTest, .clo 102 [I]]
abbrev R_ch : List (RK × Sh) := [(.imm, I)]
abbrev In_ch : Type := (insSh M_ch).den
abbrev Out_ch : Type := (outSh R_ch M_ch).den
abbrev C_ch (pre : In_ch -> Bool) (fn : In_ch -> Out_ch) : Prop := Sound Tryz.prog 101 ⟨M_ch, R_ch, pre, fn⟩
section
variable (g_cg : In_cg -> Out_cg) (p_cg : In_cg -> Bool)
abbrev X_ch : Ctx := ctx tys 19 (conOf [(102, ⟨M_cg, R_cg, p_cg, g_cg⟩)]) (keepOf [(pt0, (⟨[(0, .asis), (1, .asis), (7, .asis), (8, .asis)], [(1000005000, .asis)], []⟩ : Keep))]) (fun _ => [])
noncomputable abbrev E_ch (k : Nat) (x : In_ch) : Option Out_ch := evFn (X_ch g_cg p_cg) Tryz.f101 R_ch M_ch k x
def h0_ch (x0 : Dm (.imm L_TstTest)) (x1 : Dm (.clo 102 [I])) (h0 : Dn I) (h1 : Dn I) : St := mkS [(0, (AV.val L_TstTest x0)), (1, (AV.fn 102 [1000005000])), (7, (AV.val I h0)), (8, (AV.val I h1))] [(1000005000, (Ob.cbox I x1.1))]
noncomputable def r_ch (x : In_ch) (k : Nat) (p : List Bool) (s : St) : Option Out_ch := rounds (X_ch g_cg p_cg) Tryz.f101 R_ch M_ch x k p s
variable {g_cg p_cg}
theorem ev_ch (k : Nat) (x0 : Dm (.imm L_TstTest)) (x1 : Dm (.clo 102 [I])) : E_ch g_cg p_cg k (x0, x1, ()) =
  (r_ch g_cg p_cg (x0, x1, ()) k pt0 (h0_ch x0 x1 (List.length x0 : Int) (0 : Int))) := by kernel_rfl
theorem rd0_ch (k : Nat) (x0 : Dm (.imm L_TstTest)) (x1 : Dm (.clo 102 [I])) (h0 : Dn I) (h1 : Dn I) : r_ch g_cg p_cg (x0, x1, ()) (k + 1) pt0 (h0_ch x0 x1 h0 h1) =
  (bif (decide (h1 < h0)) then (bif (bif (decide ((0 : Int) <= h1)) then (decide (h1 < (List.length x0 : Int))) else false) then (cl (p_cg ((rdL (e := S_TstTest) x0 h1), (x1.1, ()))) (g_cg ((rdL (e := S_TstTest) x0 h1), (x1.1, ()))) fun y0 => (bif y0.1 then (some (h1, ())) else (r_ch g_cg p_cg (x0, x1, ()) k pt0 (h0_ch x0 x1 h0 (w64 (h1 + (1 : Int))))))) else none) else (some ((-1 : Int), ()))) := by kernel_rfl
theorem S_ch (h_cg : C_cg p_cg g_cg) {pre : In_ch -> Bool} {fn : In_ch -> Out_ch} (hev : ∀ x, pre x = true -> ∃ k, E_ch g_cg p_cg k x = some (fn x)) : C_ch pre fn := sound tysOk mixed (fn := Tryz.f101) rfl rfl rfl (.cons h_cg .nil) _ hev
end
/-! ci: iTstPut_c1 -/
abbrev M_ci : List Vm.Mode := [.pO S_TstTest, .pR S_DecDec]
abbrev R_ci : List (RK × Sh) := []
abbrev In_ci : Type := (insSh M_ci).den
abbrev Out_ci : Type := (outSh R_ci M_ci).den
abbrev C_ci (pre : In_ci -> Bool) (fn : In_ci -> Out_ci) : Prop := Sound Tryz.prog 125 ⟨M_ci, R_ci, pre, fn⟩
abbrev X_ci : Ctx := ctx tys 7 (conOf []) (keepOf []) (fun _ => [])
noncomputable abbrev E_ci (k : Nat) (x : In_ci) : Option Out_ci := evFn X_ci Tryz.f125 R_ci M_ci k x
theorem ev_ci (k : Nat) (x0 : Dm (.pO S_TstTest)) (x1 : Dm (.pR S_DecDec)) : E_ci k (x0, x1, ()) =
  (some ((x0.1, (x0.2.1, (x1, x0.2.2.2))), ())) := by kernel_rfl
theorem S_ci  {pre : In_ci -> Bool} {fn : In_ci -> Out_ci} (hev : ∀ x, pre x = true -> ∃ k, E_ci k x = some (fn x)) : C_ci pre fn := sound tysOk mixed (fn := Tryz.f125) rfl rfl rfl ConsOk.nil _ hev
/-! cj: iturned__iTstPut_c1 -/
abbrev M_cj : List Vm.Mode := [.imm S_TstTest, .imm I, .imm .bool, .clo 125 [S_DecDec]]
abbrev R_cj : List (RK × Sh) := [(.own, S_TstTest), (.imm, .bool)]
abbrev In_cj : Type := (insSh M_cj).den
abbrev Out_cj : Type := (outSh R_cj M_cj).den
abbrev C_cj (pre : In_cj -> Bool) (fn : In_cj -> Out_cj) : Prop := Sound Tryz.prog 123 ⟨M_cj, R_cj, pre, fn⟩
section
variable (g_b7 : In_b7 -> Out_b7) (p_b7 : In_b7 -> Bool) (g_bw : In_bw -> Out_bw) (p_bw : In_bw -> Bool) (g_ci : In_ci -> Out_ci) (p_ci : In_ci -> Bool) (g_bv : In_bv -> Out_bv) (p_bv : In_bv -> Bool)
abbrev X_cj : Ctx := ctx tys 33 (conOf [(183, ⟨M_b7, R_b7, p_b7, g_b7⟩), (110, ⟨M_bw, R_bw, p_bw, g_bw⟩), (125, ⟨M_ci, R_ci, p_ci, g_ci⟩), (180, ⟨M_bv, R_bv, p_bv, g_bv⟩)]) (keepOf []) (fun _ => [])
noncomputable abbrev E_cj (k : Nat) (x : In_cj) : Option Out_cj := evFn (X_cj g_b7 p_b7 g_bw p_bw g_ci p_ci g_bv p_bv) Tryz.f123 R_cj M_cj k x
variable {g_b7 p_b7 g_bw p_bw g_ci p_ci g_bv p_bv}
theorem ev_cj (k : Nat) (x0 : Dm (.imm S_TstTest)) (x1 : Dm (.imm I)) (x2 : Dm (.imm .bool)) (x3 : Dm (.clo 125 [S_DecDec])) : E_cj g_b7 p_b7 g_bw p_bw g_ci p_ci g_bv p_bv k (x0, x1, x2, x3, ()) =
  (cl (p_b7 (x0, ())) (g_b7 (x0, ())) fun y0 => (cl (p_bw (x0, ())) (g_bw (x0, ())) fun y1 => (bif (bif y1.1 then false else true) then (some (y0.1, (false, ()))) else (bif (bif (decide (x0.2.1 = x1)) then false else true) then (some (y0.1, (false, ()))) else (bif (bif x2 then false else true) then (some (y0.1, (false, ()))) else (cl (p_ci (y0.1, (x3.1, ()))) (g_ci (y0.1, (x3.1, ()))) fun y2 => (cl (p_bv (y2.1, ())) (g_bv (y2.1, ())) fun y3 => (some ((y2.1.1, (y3.1, y2.1.2.2)), (true, ())))))))))) := by kernel_rfl
theorem S_cj (h_b7 : C_b7 p_b7 g_b7) (h_bw : C_bw p_bw g_bw) (h_ci : C_ci p_ci g_ci) (h_bv : C_bv p_bv g_bv) {pre : In_cj -> Bool} {fn : In_cj -> Out_cj} (hev : ∀ x, pre x = true -> ∃ k, E_cj g_b7 p_b7 g_bw p_bw g_ci p_ci g_bv p_bv k x = some (fn x)) : C_cj pre fn := sound tysOk mixed (fn := Tryz.f123) rfl rfl rfl (.cons h_b7 (.cons h_bw (.cons h_ci (.cons h_bv .nil)))) _ hev
end
/-! ck: iTstPut -/
abbrev M_ck : List Vm.Mode := [.imm S_TstTest, .imm S_DecDec]
abbrev R_ck : List (RK × Sh) := [(.own, S_TstTest), (.imm, .bool)]
abbrev In_ck : Type := (insSh M_ck).den
abbrev Out_ck : Type := (outSh R_ck M_ck).den
abbrev C_ck (pre : In_ck -> Bool) (fn : In_ck -> Out_ck) : Prop := Sound Tryz.prog 49 ⟨M_ck, R_ck, pre, fn⟩
section
variable (g_bd : In_bd -> Out_bd) (g_cj : In_cj -> Out_cj) (p_cj : In_cj -> Bool)
abbrev X_ck : Ctx := ctx tys 13 (conOf [(124, ⟨M_bd, R_bd, fun _ => true, g_bd⟩), (123, ⟨M_cj, R_cj, p_cj, g_cj⟩)]) (keepOf []) (fun _ => [])
noncomputable abbrev E_ck (k : Nat) (x : In_ck) : Option Out_ck := evFn (X_ck g_bd g_cj p_cj) Tryz.f49 R_ck M_ck k x
variable {g_bd g_cj p_cj}
theorem ev_ck (k : Nat) (x0 : Dm (.imm S_TstTest)) (x1 : Dm (.imm S_DecDec)) : E_ck g_bd g_cj p_cj k (x0, x1, ()) =
  (cl (p_cj (x0, ((0 : Int), ((g_bd (x1, ())).1, ((x1, ()), ()))))) (g_cj (x0, ((0 : Int), ((g_bd (x1, ())).1, ((x1, ()), ()))))) fun y0 => (some (y0.1, (y0.2.1, ())))) := by kernel_rfl
theorem S_ck (h_bd : C_bd (fun _ => true) g_bd) (h_cj : C_cj p_cj g_cj) {pre : In_ck -> Bool} {fn : In_ck -> Out_ck} (hev : ∀ x, pre x = true -> ∃ k, E_ck g_bd g_cj p_cj k x = some (fn x)) : C_ck pre fn := sound tysOk mixed (fn := Tryz.f49) rfl rfl rfl (.cons h_bd (.cons h_cj .nil)) _ hev
end
/-! cl: iTstCause_c1 -/
abbrev M_cl : List Vm.Mode := [.pO S_TstTest, .pR I]
abbrev R_cl : List (RK × Sh) := []
abbrev In_cl : Type := (insSh M_cl).den
abbrev Out_cl : Type := (outSh R_cl M_cl).den
abbrev C_cl (pre : In_cl -> Bool) (fn : In_cl -> Out_cl) : Prop := Sound Tryz.prog 126 ⟨M_cl, R_cl, pre, fn⟩
abbrev X_cl : Ctx := ctx tys 7 (conOf []) (keepOf []) (fun _ => [])
noncomputable abbrev E_cl (k : Nat) (x : In_cl) : Option Out_cl := evFn X_cl Tryz.f126 R_cl M_cl k x
theorem ev_cl (k : Nat) (x0 : Dm (.pO S_TstTest)) (x1 : Dm (.pR I)) : E_cl k (x0, x1, ()) =
  (some ((x0.1, (x0.2.1, (x0.2.2.1, (x1, x0.2.2.2.2)))), ())) := by kernel_rfl
theorem S_cl  {pre : In_cl -> Bool} {fn : In_cl -> Out_cl} (hev : ∀ x, pre x = true -> ∃ k, E_cl k x = some (fn x)) : C_cl pre fn := sound tysOk mixed (fn := Tryz.f126) rfl rfl rfl ConsOk.nil _ hev
/-! cm: iturned__iTstCause_c1 -/
abbrev M_cm : List Vm.Mode := [.imm S_TstTest, .imm I, .imm .bool, .clo 126 [I]]
abbrev R_cm : List (RK × Sh) := [(.own, S_TstTest), (.imm, .bool)]
abbrev In_cm : Type := (insSh M_cm).den
abbrev Out_cm : Type := (outSh R_cm M_cm).den
abbrev C_cm (pre : In_cm -> Bool) (fn : In_cm -> Out_cm) : Prop := Sound Tryz.prog 123 ⟨M_cm, R_cm, pre, fn⟩
section
variable (g_b7 : In_b7 -> Out_b7) (p_b7 : In_b7 -> Bool) (g_bw : In_bw -> Out_bw) (p_bw : In_bw -> Bool) (g_cl : In_cl -> Out_cl) (p_cl : In_cl -> Bool) (g_bv : In_bv -> Out_bv) (p_bv : In_bv -> Bool)
abbrev X_cm : Ctx := ctx tys 33 (conOf [(183, ⟨M_b7, R_b7, p_b7, g_b7⟩), (110, ⟨M_bw, R_bw, p_bw, g_bw⟩), (126, ⟨M_cl, R_cl, p_cl, g_cl⟩), (180, ⟨M_bv, R_bv, p_bv, g_bv⟩)]) (keepOf []) (fun _ => [])
noncomputable abbrev E_cm (k : Nat) (x : In_cm) : Option Out_cm := evFn (X_cm g_b7 p_b7 g_bw p_bw g_cl p_cl g_bv p_bv) Tryz.f123 R_cm M_cm k x
variable {g_b7 p_b7 g_bw p_bw g_cl p_cl g_bv p_bv}
theorem ev_cm (k : Nat) (x0 : Dm (.imm S_TstTest)) (x1 : Dm (.imm I)) (x2 : Dm (.imm .bool)) (x3 : Dm (.clo 126 [I])) : E_cm g_b7 p_b7 g_bw p_bw g_cl p_cl g_bv p_bv k (x0, x1, x2, x3, ()) =
  (cl (p_b7 (x0, ())) (g_b7 (x0, ())) fun y0 => (cl (p_bw (x0, ())) (g_bw (x0, ())) fun y1 => (bif (bif y1.1 then false else true) then (some (y0.1, (false, ()))) else (bif (bif (decide (x0.2.1 = x1)) then false else true) then (some (y0.1, (false, ()))) else (bif (bif x2 then false else true) then (some (y0.1, (false, ()))) else (cl (p_cl (y0.1, (x3.1, ()))) (g_cl (y0.1, (x3.1, ()))) fun y2 => (cl (p_bv (y2.1, ())) (g_bv (y2.1, ())) fun y3 => (some ((y2.1.1, (y3.1, y2.1.2.2)), (true, ())))))))))) := by kernel_rfl
theorem S_cm (h_b7 : C_b7 p_b7 g_b7) (h_bw : C_bw p_bw g_bw) (h_cl : C_cl p_cl g_cl) (h_bv : C_bv p_bv g_bv) {pre : In_cm -> Bool} {fn : In_cm -> Out_cm} (hev : ∀ x, pre x = true -> ∃ k, E_cm g_b7 p_b7 g_bw p_bw g_cl p_cl g_bv p_bv k x = some (fn x)) : C_cm pre fn := sound tysOk mixed (fn := Tryz.f123) rfl rfl rfl (.cons h_b7 (.cons h_bw (.cons h_cl (.cons h_bv .nil)))) _ hev
end
/-! cn: iTstCause -/
abbrev M_cn : List Vm.Mode := [.imm S_TstTest, .imm I]
abbrev R_cn : List (RK × Sh) := [(.own, S_TstTest), (.imm, .bool)]
abbrev In_cn : Type := (insSh M_cn).den
abbrev Out_cn : Type := (outSh R_cn M_cn).den
abbrev C_cn (pre : In_cn -> Bool) (fn : In_cn -> Out_cn) : Prop := Sound Tryz.prog 50 ⟨M_cn, R_cn, pre, fn⟩
section
variable (g_iin : In_iin -> Out_iin) (g_cm : In_cm -> Out_cm) (p_cm : In_cm -> Bool)
abbrev X_cn : Ctx := ctx tys 13 (conOf [(72, ⟨M_iin, R_iin, fun _ => true, g_iin⟩), (123, ⟨M_cm, R_cm, p_cm, g_cm⟩)]) (keepOf []) (fun _ => [])
noncomputable abbrev E_cn (k : Nat) (x : In_cn) : Option Out_cn := evFn (X_cn g_iin g_cm p_cm) Tryz.f50 R_cn M_cn k x
variable {g_iin g_cm p_cm}
theorem ev_cn (k : Nat) (x0 : Dm (.imm S_TstTest)) (x1 : Dm (.imm I)) : E_cn g_iin g_cm p_cm k (x0, x1, ()) =
  (cl (p_cm (x0, ((1 : Int), ((g_iin (x1, ((1 : Int), ((3 : Int), ())))).1, ((x1, ()), ()))))) (g_cm (x0, ((1 : Int), ((g_iin (x1, ((1 : Int), ((3 : Int), ())))).1, ((x1, ()), ()))))) fun y0 => (some (y0.1, (y0.2.1, ())))) := by kernel_rfl
theorem S_cn (h_iin : C_iin (fun _ => true) g_iin) (h_cm : C_cm p_cm g_cm) {pre : In_cn -> Bool} {fn : In_cn -> Out_cn} (hev : ∀ x, pre x = true -> ∃ k, E_cn g_iin g_cm p_cm k x = some (fn x)) : C_cn pre fn := sound tysOk mixed (fn := Tryz.f50) rfl rfl rfl (.cons h_iin (.cons h_cm .nil)) _ hev
end
/-! co: iTstMore_c1 -/
abbrev M_co : List Vm.Mode := [.pO S_TstTest, .pR S_DecDec]
abbrev R_co : List (RK × Sh) := []
abbrev In_co : Type := (insSh M_co).den
abbrev Out_co : Type := (outSh R_co M_co).den
abbrev C_co (pre : In_co -> Bool) (fn : In_co -> Out_co) : Prop := Sound Tryz.prog 127 ⟨M_co, R_co, pre, fn⟩
abbrev X_co : Ctx := ctx tys 13 (conOf []) (keepOf []) (fun _ => [])
noncomputable abbrev E_co (k : Nat) (x : In_co) : Option Out_co := evFn X_co Tryz.f127 R_co M_co k x
theorem ev_co (k : Nat) (x0 : Dm (.pO S_TstTest)) (x1 : Dm (.pR S_DecDec)) : E_co k (x0, x1, ()) =
  (bif (fitL x0.2.2.2.2 [x1]) then (some ((x0.1, (x0.2.1, (x0.2.2.1, (x0.2.2.2.1, (List.append x0.2.2.2.2 [x1]))))), ())) else none) := by kernel_rfl
theorem S_co  {pre : In_co -> Bool} {fn : In_co -> Out_co} (hev : ∀ x, pre x = true -> ∃ k, E_co k x = some (fn x)) : C_co pre fn := sound tysOk mixed (fn := Tryz.f127) rfl rfl rfl ConsOk.nil _ hev
/-! cp: iturned__iTstMore_c1 -/
abbrev M_cp : List Vm.Mode := [.imm S_TstTest, .imm I, .imm .bool, .clo 127 [S_DecDec]]
abbrev R_cp : List (RK × Sh) := [(.own, S_TstTest), (.imm, .bool)]
abbrev In_cp : Type := (insSh M_cp).den
abbrev Out_cp : Type := (outSh R_cp M_cp).den
abbrev C_cp (pre : In_cp -> Bool) (fn : In_cp -> Out_cp) : Prop := Sound Tryz.prog 123 ⟨M_cp, R_cp, pre, fn⟩
section
variable (g_b7 : In_b7 -> Out_b7) (p_b7 : In_b7 -> Bool) (g_bw : In_bw -> Out_bw) (p_bw : In_bw -> Bool) (g_co : In_co -> Out_co) (p_co : In_co -> Bool) (g_bv : In_bv -> Out_bv) (p_bv : In_bv -> Bool)
abbrev X_cp : Ctx := ctx tys 33 (conOf [(183, ⟨M_b7, R_b7, p_b7, g_b7⟩), (110, ⟨M_bw, R_bw, p_bw, g_bw⟩), (127, ⟨M_co, R_co, p_co, g_co⟩), (180, ⟨M_bv, R_bv, p_bv, g_bv⟩)]) (keepOf []) (fun _ => [])
noncomputable abbrev E_cp (k : Nat) (x : In_cp) : Option Out_cp := evFn (X_cp g_b7 p_b7 g_bw p_bw g_co p_co g_bv p_bv) Tryz.f123 R_cp M_cp k x
variable {g_b7 p_b7 g_bw p_bw g_co p_co g_bv p_bv}
theorem ev_cp (k : Nat) (x0 : Dm (.imm S_TstTest)) (x1 : Dm (.imm I)) (x2 : Dm (.imm .bool)) (x3 : Dm (.clo 127 [S_DecDec])) : E_cp g_b7 p_b7 g_bw p_bw g_co p_co g_bv p_bv k (x0, x1, x2, x3, ()) =
  (cl (p_b7 (x0, ())) (g_b7 (x0, ())) fun y0 => (cl (p_bw (x0, ())) (g_bw (x0, ())) fun y1 => (bif (bif y1.1 then false else true) then (some (y0.1, (false, ()))) else (bif (bif (decide (x0.2.1 = x1)) then false else true) then (some (y0.1, (false, ()))) else (bif (bif x2 then false else true) then (some (y0.1, (false, ()))) else (cl (p_co (y0.1, (x3.1, ()))) (g_co (y0.1, (x3.1, ()))) fun y2 => (cl (p_bv (y2.1, ())) (g_bv (y2.1, ())) fun y3 => (some ((y2.1.1, (y3.1, y2.1.2.2)), (true, ())))))))))) := by kernel_rfl
theorem S_cp (h_b7 : C_b7 p_b7 g_b7) (h_bw : C_bw p_bw g_bw) (h_co : C_co p_co g_co) (h_bv : C_bv p_bv g_bv) {pre : In_cp -> Bool} {fn : In_cp -> Out_cp} (hev : ∀ x, pre x = true -> ∃ k, E_cp g_b7 p_b7 g_bw p_bw g_co p_co g_bv p_bv k x = some (fn x)) : C_cp pre fn := sound tysOk mixed (fn := Tryz.f123) rfl rfl rfl (.cons h_b7 (.cons h_bw (.cons h_co (.cons h_bv .nil)))) _ hev
end
/-! cq: iTstMore -/
abbrev M_cq : List Vm.Mode := [.imm S_TstTest, .imm S_DecDec]
abbrev R_cq : List (RK × Sh) := [(.own, S_TstTest), (.imm, .bool)]
abbrev In_cq : Type := (insSh M_cq).den
abbrev Out_cq : Type := (outSh R_cq M_cq).den
abbrev C_cq (pre : In_cq -> Bool) (fn : In_cq -> Out_cq) : Prop := Sound Tryz.prog 51 ⟨M_cq, R_cq, pre, fn⟩
section
variable (g_bd : In_bd -> Out_bd) (g_cp : In_cp -> Out_cp) (p_cp : In_cp -> Bool)
abbrev X_cq : Ctx := ctx tys 13 (conOf [(124, ⟨M_bd, R_bd, fun _ => true, g_bd⟩), (123, ⟨M_cp, R_cp, p_cp, g_cp⟩)]) (keepOf []) (fun _ => [])
noncomputable abbrev E_cq (k : Nat) (x : In_cq) : Option Out_cq := evFn (X_cq g_bd g_cp p_cp) Tryz.f51 R_cq M_cq k x
variable {g_bd g_cp p_cp}
theorem ev_cq (k : Nat) (x0 : Dm (.imm S_TstTest)) (x1 : Dm (.imm S_DecDec)) : E_cq g_bd g_cp p_cp k (x0, x1, ()) =
  (cl (p_cp (x0, ((2 : Int), ((g_bd (x1, ())).1, ((x1, ()), ()))))) (g_cp (x0, ((2 : Int), ((g_bd (x1, ())).1, ((x1, ()), ()))))) fun y0 => (some (y0.1, (y0.2.1, ())))) := by kernel_rfl
theorem S_cq (h_bd : C_bd (fun _ => true) g_bd) (h_cp : C_cp p_cp g_cp) {pre : In_cq -> Bool} {fn : In_cq -> Out_cq} (hev : ∀ x, pre x = true -> ∃ k, E_cq g_bd g_cp p_cp k x = some (fn x)) : C_cq pre fn := sound tysOk mixed (fn := Tryz.f51) rfl rfl rfl (.cons h_bd (.cons h_cp .nil)) _ hev
end
/-! cr: iBatTest_c1 -/
abbrev M_cr : List Vm.Mode := [.pO S_BatBatch, .pR I, .pR I, .pR S_DecDec, .pR I]
abbrev R_cr : List (RK × Sh) := [(.imm, .bool)]
abbrev In_cr : Type := (insSh M_cr).den
abbrev Out_cr : Type := (outSh R_cr M_cr).den
abbrev C_cr (pre : In_cr -> Bool) (fn : In_cr -> Out_cr) : Prop := Sound Tryz.prog 100 ⟨M_cr, R_cr, pre, fn⟩
section
variable (g_ch : In_ch -> Out_ch) (p_ch : In_ch -> Bool) (g_ck : In_ck -> Out_ck) (p_ck : In_ck -> Bool) (g_cn : In_cn -> Out_cn) (p_cn : In_cn -> Bool) (g_cq : In_cq -> Out_cq) (p_cq : In_cq -> Bool)
abbrev X_cr : Ctx := ctx tys 62 (conOf [(101, ⟨M_ch, R_ch, p_ch, g_ch⟩), (49, ⟨M_ck, R_ck, p_ck, g_ck⟩), (50, ⟨M_cn, R_cn, p_cn, g_cn⟩), (51, ⟨M_cq, R_cq, p_cq, g_cq⟩)]) (keepOf []) (fun _ => [])
noncomputable abbrev E_cr (k : Nat) (x : In_cr) : Option Out_cr := evFn (X_cr g_ch p_ch g_ck p_ck g_cn p_cn g_cq p_cq) Tryz.f100 R_cr M_cr k x
variable {g_ch p_ch g_ck p_ck g_cn p_cn g_cq p_cq}
theorem ev_cr (k : Nat) (x0 : Dm (.pO S_BatBatch)) (x1 : Dm (.pR I)) (x2 : Dm (.pR I)) (x3 : Dm (.pR S_DecDec)) (x4 : Dm (.pR I)) : E_cr g_ch p_ch g_ck p_ck g_cn p_cn g_cq p_cq k (x0, x1, x2, x3, x4, ()) =
  (cl (p_ch (x0.2.2.1, ((x1, ()), ()))) (g_ch (x0.2.2.1, ((x1, ()), ()))) fun y0 => (lt (rdL (e := S_TstTest) x0.2.2.1 y0.1) fun s0 => (bif (decide (y0.1 < (0 : Int))) then (some (false, (x0, ()))) else (bif (bif (decide ((0 : Int) <= y0.1)) then (decide (y0.1 < (List.length x0.2.2.1 : Int))) else false) then (bif (decide (x2 = (1 : Int))) then (cl (p_ck (s0, (x3, ()))) (g_ck (s0, (x3, ()))) fun y1 => (some (y1.2.1, ((x0.1, (x0.2.1, ((List.set x0.2.2.1 (Int.toNat y0.1) y1.1), x0.2.2.2))), ())))) else (bif (decide (x2 = (2 : Int))) then (cl (p_cn (s0, (x4, ()))) (g_cn (s0, (x4, ()))) fun y2 => (some (y2.2.1, ((x0.1, (x0.2.1, ((List.set x0.2.2.1 (Int.toNat y0.1) y2.1), x0.2.2.2))), ())))) else (bif (decide (x2 = (3 : Int))) then (cl (p_cq (s0, (x3, ()))) (g_cq (s0, (x3, ()))) fun y3 => (some (y3.2.1, ((x0.1, (x0.2.1, ((List.set x0.2.2.1 (Int.toNat y0.1) y3.1), x0.2.2.2))), ())))) else (some (false, (x0, ())))))) else none)))) := by kernel_rfl
theorem S_cr (h_ch : C_ch p_ch g_ch) (h_ck : C_ck p_ck g_ck) (h_cn : C_cn p_cn g_cn) (h_cq : C_cq p_cq g_cq) {pre : In_cr -> Bool} {fn : In_cr -> Out_cr} (hev : ∀ x, pre x = true -> ∃ k, E_cr g_ch p_ch g_ck p_ck g_cn p_cn g_cq p_cq k x = some (fn x)) : C_cr pre fn := sound tysOk mixed (fn := Tryz.f100) rfl rfl rfl (.cons h_ch (.cons h_ck (.cons h_cn (.cons h_cq .nil)))) _ hev
end
/-! cs: iBatBatch_open__iBatTest_c1 -/
abbrev M_cs : List Vm.Mode := [.imm S_BatBatch, .clo 100 [I, I, S_DecDec, I]]
abbrev R_cs : List (RK × Sh) := [(.own, S_BatBatch), (.imm, .bool)]
abbrev In_cs : Type := (insSh M_cs).den
abbrev Out_cs : Type := (outSh R_cs M_cs).den
abbrev C_cs (pre : In_cs -> Bool) (fn : In_cs -> Out_cs) : Prop := Sound Tryz.prog 70 ⟨M_cs, R_cs, pre, fn⟩
section
variable (g_ba : In_ba -> Out_ba) (p_ba : In_ba -> Bool) (g_cf : In_cf -> Out_cf) (p_cf : In_cf -> Bool) (g_cr : In_cr -> Out_cr) (p_cr : In_cr -> Bool)
abbrev X_cs : Ctx := ctx tys 23 (conOf [(115, ⟨M_ba, R_ba, p_ba, g_ba⟩), (37, ⟨M_cf, R_cf, p_cf, g_cf⟩), (100, ⟨M_cr, R_cr, p_cr, g_cr⟩)]) (keepOf []) (fun _ => [])
noncomputable abbrev E_cs (k : Nat) (x : In_cs) : Option Out_cs := evFn (X_cs g_ba p_ba g_cf p_cf g_cr p_cr) Tryz.f70 R_cs M_cs k x
variable {g_ba p_ba g_cf p_cf g_cr p_cr}
theorem ev_cs (k : Nat) (x0 : Dm (.imm S_BatBatch)) (x1 : Dm (.clo 100 [I, I, S_DecDec, I])) : E_cs g_ba p_ba g_cf p_cf g_cr p_cr k (x0, x1, ()) =
  (cl (p_ba (x0, ())) (g_ba (x0, ())) fun y0 => (cl (p_cf (x0, ())) (g_cf (x0, ())) fun y1 => (bif (bif y1.1 then false else true) then (some (y0.1, (false, ()))) else (bif (bif (decide (x0.2.2.2.1 = (1 : Int))) then false else true) then (some (y0.1, (false, ()))) else (cl (p_cr (y0.1, (x1.1, (x1.2.1, (x1.2.2.1, (x1.2.2.2.1, ())))))) (g_cr (y0.1, (x1.1, (x1.2.1, (x1.2.2.1, (x1.2.2.2.1, ())))))) fun y2 => (some (y2.2.1, (y2.1, ())))))))) := by kernel_rfl
theorem S_cs (h_ba : C_ba p_ba g_ba) (h_cf : C_cf p_cf g_cf) (h_cr : C_cr p_cr g_cr) {pre : In_cs -> Bool} {fn : In_cs -> Out_cs} (hev : ∀ x, pre x = true -> ∃ k, E_cs g_ba p_ba g_cf p_cf g_cr p_cr k x = some (fn x)) : C_cs pre fn := sound tysOk mixed (fn := Tryz.f70) rfl rfl rfl (.cons h_ba (.cons h_cf (.cons h_cr .nil))) _ hev
end
/-! ct: iBatTest -/
abbrev M_ct : List Vm.Mode := [.imm S_BatBatch, .imm I, .imm I, .imm S_DecDec, .imm I]
abbrev R_ct : List (RK × Sh) := [(.own, S_BatBatch), (.imm, .bool)]
abbrev In_ct : Type := (insSh M_ct).den
abbrev Out_ct : Type := (outSh R_ct M_ct).den
abbrev C_ct (pre : In_ct -> Bool) (fn : In_ct -> Out_ct) : Prop := Sound Tryz.prog 29 ⟨M_ct, R_ct, pre, fn⟩
section
variable (g_cs : In_cs -> Out_cs) (p_cs : In_cs -> Bool)
abbrev X_ct : Ctx := ctx tys 17 (conOf [(70, ⟨M_cs, R_cs, p_cs, g_cs⟩)]) (keepOf []) (fun _ => [])
noncomputable abbrev E_ct (k : Nat) (x : In_ct) : Option Out_ct := evFn (X_ct g_cs p_cs) Tryz.f29 R_ct M_ct k x
variable {g_cs p_cs}
theorem ev_ct (k : Nat) (x0 : Dm (.imm S_BatBatch)) (x1 : Dm (.imm I)) (x2 : Dm (.imm I)) (x3 : Dm (.imm S_DecDec)) (x4 : Dm (.imm I)) : E_ct g_cs p_cs k (x0, x1, x2, x3, x4, ()) =
  (cl (p_cs (x0, ((x1, (x2, (x3, (x4, ())))), ()))) (g_cs (x0, ((x1, (x2, (x3, (x4, ())))), ()))) fun y0 => (some (y0.1, (y0.2.1, ())))) := by kernel_rfl
theorem S_ct (h_cs : C_cs p_cs g_cs) {pre : In_ct -> Bool} {fn : In_ct -> Out_ct} (hev : ∀ x, pre x = true -> ∃ k, E_ct g_cs p_cs k x = some (fn x)) : C_ct pre fn := sound tysOk mixed (fn := Tryz.f29) rfl rfl rfl (.cons h_cs .nil) _ hev
end
/-! cu: leqDecDec -/
abbrev M_cu : List Vm.Mode := [.imm S_DecDec, .imm S_DecDec]
abbrev R_cu : List (RK × Sh) := [(.imm, .bool)]
abbrev In_cu : Type := (insSh M_cu).den
abbrev Out_cu : Type := (outSh R_cu M_cu).den
abbrev C_cu (pre : In_cu -> Bool) (fn : In_cu -> Out_cu) : Prop := Sound Tryz.prog 217 ⟨M_cu, R_cu, pre, fn⟩
abbrev X_cu : Ctx := ctx tys 15 (conOf []) (keepOf []) (fun _ => [])
noncomputable abbrev E_cu (k : Nat) (x : In_cu) : Option Out_cu := evFn X_cu Tryz.f217 R_cu M_cu k x
theorem ev_cu (k : Nat) (x0 : Dm (.imm S_DecDec)) (x1 : Dm (.imm S_DecDec)) : E_cu k (x0, x1, ()) =
  (bif (bif (decide (x0.1 = x1.1)) then false else true) then (some (false, ())) else (bif (bif (decide (x0.2 = x1.2)) then false else true) then (some (false, ())) else (some (true, ())))) := by kernel_rfl
theorem S_cu  {pre : In_cu -> Bool} {fn : In_cu -> Out_cu} (hev : ∀ x, pre x = true -> ∃ k, E_cu k x = some (fn x)) : C_cu pre fn := sound tysOk mixed (fn := Tryz.f217) rfl rfl rfl ConsOk.nil _ hev
/-! cv: leqSpcTest -/
abbrev M_cv : List Vm.Mode := [.imm S_SpcTest, .imm S_SpcTest]
abbrev R_cv : List (RK × Sh) := [(.imm, .bool)]
abbrev In_cv : Type := (insSh M_cv).den
abbrev Out_cv : Type := (outSh R_cv M_cv).den
abbrev C_cv (pre : In_cv -> Bool) (fn : In_cv -> Out_cv) : Prop := Sound Tryz.prog 216 ⟨M_cv, R_cv, pre, fn⟩
section
variable (g_cu : In_cu -> Out_cu)
abbrev X_cv : Ctx := ctx tys 27 (conOf [(217, ⟨M_cu, R_cu, fun _ => true, g_cu⟩)]) (keepOf []) (fun _ => [])
noncomputable abbrev E_cv (k : Nat) (x : In_cv) : Option Out_cv := evFn (X_cv g_cu) Tryz.f216 R_cv M_cv k x
variable {g_cu}
theorem ev_cv (k : Nat) (x0 : Dm (.imm S_SpcTest)) (x1 : Dm (.imm S_SpcTest)) : E_cv g_cu k (x0, x1, ()) =
  (bif (bif (decide (x0.1 = x1.1)) then false else true) then (some (false, ())) else (bif (bif (g_cu (x0.2.1, (x1.2.1, ()))).1 then false else true) then (some (false, ())) else (bif (bif (g_cu (x0.2.2.1, (x1.2.2.1, ()))).1 then false else true) then (some (false, ())) else (bif (bif (decide (x0.2.2.2 = x1.2.2.2)) then false else true) then (some (false, ())) else (some (true, ())))))) := by kernel_rfl
theorem S_cv (h_cu : C_cu (fun _ => true) g_cu) {pre : In_cv -> Bool} {fn : In_cv -> Out_cv} (hev : ∀ x, pre x = true -> ∃ k, E_cv g_cu k x = some (fn x)) : C_cv pre fn := sound tysOk mixed (fn := Tryz.f216) rfl rfl rfl (.cons h_cu .nil) _ hev
end
/-! cw: leqDecDecS -/
abbrev M_cw : List Vm.Mode := [.imm L_DecDec, .imm L_DecDec]
abbrev R_cw : List (RK × Sh) := [(.imm, .bool)]
abbrev In_cw : Type := (insSh M_cw).den
abbrev Out_cw : Type := (outSh R_cw M_cw).den
abbrev C_cw (pre : In_cw -> Bool) (fn : In_cw -> Out_cw) : Prop := Sound Tryz.prog 218 ⟨M_cw, R_cw, pre, fn⟩
section
variable (g_cu : In_cu -> Out_cu)
abbrev X_cw : Ctx := ctx tys 27 (conOf [(217, ⟨M_cu, R_cu, fun _ => true, g_cu⟩)]) (keepOf [(pt1, (⟨[(0, .asis), (1, .asis), (5, .asis)], [], []⟩ : Keep))]) (fun _ => [])
noncomputable abbrev E_cw (k : Nat) (x : In_cw) : Option Out_cw := evFn (X_cw g_cu) Tryz.f218 R_cw M_cw k x
def h0_cw (x0 : Dm (.imm L_DecDec)) (x1 : Dm (.imm L_DecDec)) (h0 : Dn I) : St := mkS [(0, (AV.val L_DecDec x0)), (1, (AV.val L_DecDec x1)), (5, (AV.val I h0))] []
noncomputable def r_cw (x : In_cw) (k : Nat) (p : List Bool) (s : St) : Option Out_cw := rounds (X_cw g_cu) Tryz.f218 R_cw M_cw x k p s
variable {g_cu}
theorem ev_cw (k : Nat) (x0 : Dm (.imm L_DecDec)) (x1 : Dm (.imm L_DecDec)) : E_cw g_cu k (x0, x1, ()) =
  (bif (bif (decide ((List.length x0 : Int) = (List.length x1 : Int))) then false else true) then (some (false, ())) else (r_cw g_cu (x0, x1, ()) k pt1 (h0_cw x0 x1 (0 : Int)))) := by kernel_rfl
theorem rd0_cw (k : Nat) (x0 : Dm (.imm L_DecDec)) (x1 : Dm (.imm L_DecDec)) (h0 : Dn I) : r_cw g_cu (x0, x1, ()) (k + 1) pt1 (h0_cw x0 x1 h0) =
  (bif (decide (h0 < (List.length x0 : Int))) then (bif (bif (decide ((0 : Int) <= h0)) then (decide (h0 < (List.length x0 : Int))) else false) then (bif (bif (decide ((0 : Int) <= h0)) then (decide (h0 < (List.length x1 : Int))) else false) then (bif (bif (g_cu ((rdL (e := S_DecDec) x0 h0), ((rdL (e := S_DecDec) x1 h0), ()))).1 then false else true) then (some (false, ())) else (r_cw g_cu (x0, x1, ()) k pt1 (h0_cw x0 x1 (w64 (h0 + (1 : Int)))))) else none) else none) else (some (true, ()))) := by kernel_rfl
theorem S_cw (h_cu : C_cu (fun _ => true) g_cu) {pre : In_cw -> Bool} {fn : In_cw -> Out_cw} (hev : ∀ x, pre x = true -> ∃ k, E_cw g_cu k x = some (fn x)) : C_cw pre fn := sound tysOk mixed (fn := Tryz.f218) rfl rfl rfl (.cons h_cu .nil) _ hev
end
/-! cx: leqTstTest -/
abbrev M_cx : List Vm.Mode := [.imm S_TstTest, .imm S_TstTest]
abbrev R_cx : List (RK × Sh) := [(.imm, .bool)]
abbrev In_cx : Type := (insSh M_cx).den
abbrev Out_cx : Type := (outSh R_cx M_cx).den
abbrev C_cx (pre : In_cx -> Bool) (fn : In_cx -> Out_cx) : Prop := Sound Tryz.prog 148 ⟨M_cx, R_cx, pre, fn⟩
section
variable (g_cv : In_cv -> Out_cv) (g_cu : In_cu -> Out_cu) (g_cw : In_cw -> Out_cw) (p_cw : In_cw -> Bool)
abbrev X_cx : Ctx := ctx tys 33 (conOf [(216, ⟨M_cv, R_cv, fun _ => true, g_cv⟩), (217, ⟨M_cu, R_cu, fun _ => true, g_cu⟩), (218, ⟨M_cw, R_cw, p_cw, g_cw⟩)]) (keepOf []) (fun _ => [])
noncomputable abbrev E_cx (k : Nat) (x : In_cx) : Option Out_cx := evFn (X_cx g_cv g_cu g_cw p_cw) Tryz.f148 R_cx M_cx k x
variable {g_cv g_cu g_cw p_cw}
theorem ev_cx (k : Nat) (x0 : Dm (.imm S_TstTest)) (x1 : Dm (.imm S_TstTest)) : E_cx g_cv g_cu g_cw p_cw k (x0, x1, ()) =
  (bif (bif (g_cv (x0.1, (x1.1, ()))).1 then false else true) then (some (false, ())) else (bif (bif (decide (x0.2.1 = x1.2.1)) then false else true) then (some (false, ())) else (bif (bif (g_cu (x0.2.2.1, (x1.2.2.1, ()))).1 then false else true) then (some (false, ())) else (bif (bif (decide (x0.2.2.2.1 = x1.2.2.2.1)) then false else true) then (some (false, ())) else (bif (p_cw (x0.2.2.2.2, (x1.2.2.2.2, ()))) then (bif (bif (g_cw (x0.2.2.2.2, (x1.2.2.2.2, ()))).1 then false else true) then (some (false, ())) else (some (true, ()))) else none))))) := by kernel_rfl
theorem S_cx (h_cv : C_cv (fun _ => true) g_cv) (h_cu : C_cu (fun _ => true) g_cu) (h_cw : C_cw p_cw g_cw) {pre : In_cx -> Bool} {fn : In_cx -> Out_cx} (hev : ∀ x, pre x = true -> ∃ k, E_cx g_cv g_cu g_cw p_cw k x = some (fn x)) : C_cx pre fn := sound tysOk mixed (fn := Tryz.f148) rfl rfl rfl (.cons h_cv (.cons h_cu (.cons h_cw .nil))) _ hev
end
/-! cy: leqTstTestS -/
abbrev M_cy : List Vm.Mode := [.imm L_TstTest, .imm L_TstTest]
abbrev R_cy : List (RK × Sh) := [(.imm, .bool)]
abbrev In_cy : Type := (insSh M_cy).den
abbrev Out_cy : Type := (outSh R_cy M_cy).den
abbrev C_cy (pre : In_cy -> Bool) (fn : In_cy -> Out_cy) : Prop := Sound Tryz.prog 73 ⟨M_cy, R_cy, pre, fn⟩
section
variable (g_cx : In_cx -> Out_cx) (p_cx : In_cx -> Bool)
abbrev X_cy : Ctx := ctx tys 27 (conOf [(148, ⟨M_cx, R_cx, p_cx, g_cx⟩)]) (keepOf [(pt1, (⟨[(0, .asis), (1, .asis), (5, .asis)], [], []⟩ : Keep))]) (fun _ => [])
noncomputable abbrev E_cy (k : Nat) (x : In_cy) : Option Out_cy := evFn (X_cy g_cx p_cx) Tryz.f73 R_cy M_cy k x
def h0_cy (x0 : Dm (.imm L_TstTest)) (x1 : Dm (.imm L_TstTest)) (h0 : Dn I) : St := mkS [(0, (AV.val L_TstTest x0)), (1, (AV.val L_TstTest x1)), (5, (AV.val I h0))] []
noncomputable def r_cy (x : In_cy) (k : Nat) (p : List Bool) (s : St) : Option Out_cy := rounds (X_cy g_cx p_cx) Tryz.f73 R_cy M_cy x k p s
variable {g_cx p_cx}
theorem ev_cy (k : Nat) (x0 : Dm (.imm L_TstTest)) (x1 : Dm (.imm L_TstTest)) : E_cy g_cx p_cx k (x0, x1, ()) =
  (bif (bif (decide ((List.length x0 : Int) = (List.length x1 : Int))) then false else true) then (some (false, ())) else (r_cy g_cx p_cx (x0, x1, ()) k pt1 (h0_cy x0 x1 (0 : Int)))) := by kernel_rfl
theorem rd0_cy (k : Nat) (x0 : Dm (.imm L_TstTest)) (x1 : Dm (.imm L_TstTest)) (h0 : Dn I) : r_cy g_cx p_cx (x0, x1, ()) (k + 1) pt1 (h0_cy x0 x1 h0) =
  (bif (decide (h0 < (List.length x0 : Int))) then (bif (bif (decide ((0 : Int) <= h0)) then (decide (h0 < (List.length x0 : Int))) else false) then (bif (bif (decide ((0 : Int) <= h0)) then (decide (h0 < (List.length x1 : Int))) else false) then (cl (p_cx ((rdL (e := S_TstTest) x0 h0), ((rdL (e := S_TstTest) x1 h0), ()))) (g_cx ((rdL (e := S_TstTest) x0 h0), ((rdL (e := S_TstTest) x1 h0), ()))) fun y0 => (bif (bif y0.1 then false else true) then (some (false, ())) else (r_cy g_cx p_cx (x0, x1, ()) k pt1 (h0_cy x0 x1 (w64 (h0 + (1 : Int))))))) else none) else none) else (some (true, ()))) := by kernel_rfl
theorem S_cy (h_cx : C_cx p_cx g_cx) {pre : In_cy -> Bool} {fn : In_cy -> Out_cy} (hev : ∀ x, pre x = true -> ∃ k, E_cy g_cx p_cx k x = some (fn x)) : C_cy pre fn := sound tysOk mixed (fn := Tryz.f73) rfl rfl rfl (.cons h_cx .nil) _ hev
end
/-! cz: leqBatSig -/
abbrev M_cz : List Vm.Mode := [.imm S_BatSig, .imm S_BatSig]
abbrev R_cz : List (RK × Sh) := [(.imm, .bool)]
abbrev In_cz : Type := (insSh M_cz).den
abbrev Out_cz : Type := (outSh R_cz M_cz).den
abbrev C_cz (pre : In_cz -> Bool) (fn : In_cz -> Out_cz) : Prop := Sound Tryz.prog 149 ⟨M_cz, R_cz, pre, fn⟩
abbrev X_cz : Ctx := ctx tys 20 (conOf []) (keepOf []) (fun _ => [])
noncomputable abbrev E_cz (k : Nat) (x : In_cz) : Option Out_cz := evFn X_cz Tryz.f149 R_cz M_cz k x
theorem ev_cz (k : Nat) (x0 : Dm (.imm S_BatSig)) (x1 : Dm (.imm S_BatSig)) : E_cz k (x0, x1, ()) =
  (bif (bif (decide (x0.1 = x1.1)) then false else true) then (some (false, ())) else (bif (bif (decide (x0.2.1 = x1.2.1)) then false else true) then (some (false, ())) else (bif (bif (decide (x0.2.2 = x1.2.2)) then false else true) then (some (false, ())) else (some (true, ()))))) := by kernel_rfl
theorem S_cz  {pre : In_cz -> Bool} {fn : In_cz -> Out_cz} (hev : ∀ x, pre x = true -> ∃ k, E_cz k x = some (fn x)) : C_cz pre fn := sound tysOk mixed (fn := Tryz.f149) rfl rfl rfl ConsOk.nil _ hev
/-! d0: leqBatSigS -/
abbrev M_d0 : List Vm.Mode := [.imm L_BatSig, .imm L_BatSig]
abbrev R_d0 : List (RK × Sh) := [(.imm, .bool)]
abbrev In_d0 : Type := (insSh M_d0).den
abbrev Out_d0 : Type := (outSh R_d0 M_d0).den
abbrev C_d0 (pre : In_d0 -> Bool) (fn : In_d0 -> Out_d0) : Prop := Sound Tryz.prog 74 ⟨M_d0, R_d0, pre, fn⟩
section
variable (g_cz : In_cz -> Out_cz)
abbrev X_d0 : Ctx := ctx tys 27 (conOf [(149, ⟨M_cz, R_cz, fun _ => true, g_cz⟩)]) (keepOf [(pt1, (⟨[(0, .asis), (1, .asis), (5, .asis)], [], []⟩ : Keep))]) (fun _ => [])
noncomputable abbrev E_d0 (k : Nat) (x : In_d0) : Option Out_d0 := evFn (X_d0 g_cz) Tryz.f74 R_d0 M_d0 k x
def h0_d0 (x0 : Dm (.imm L_BatSig)) (x1 : Dm (.imm L_BatSig)) (h0 : Dn I) : St := mkS [(0, (AV.val L_BatSig x0)), (1, (AV.val L_BatSig x1)), (5, (AV.val I h0))] []
noncomputable def r_d0 (x : In_d0) (k : Nat) (p : List Bool) (s : St) : Option Out_d0 := rounds (X_d0 g_cz) Tryz.f74 R_d0 M_d0 x k p s
variable {g_cz}
theorem ev_d0 (k : Nat) (x0 : Dm (.imm L_BatSig)) (x1 : Dm (.imm L_BatSig)) : E_d0 g_cz k (x0, x1, ()) =
  (bif (bif (decide ((List.length x0 : Int) = (List.length x1 : Int))) then false else true) then (some (false, ())) else (r_d0 g_cz (x0, x1, ()) k pt1 (h0_d0 x0 x1 (0 : Int)))) := by kernel_rfl
theorem rd0_d0 (k : Nat) (x0 : Dm (.imm L_BatSig)) (x1 : Dm (.imm L_BatSig)) (h0 : Dn I) : r_d0 g_cz (x0, x1, ()) (k + 1) pt1 (h0_d0 x0 x1 h0) =
  (bif (decide (h0 < (List.length x0 : Int))) then (bif (bif (decide ((0 : Int) <= h0)) then (decide (h0 < (List.length x0 : Int))) else false) then (bif (bif (decide ((0 : Int) <= h0)) then (decide (h0 < (List.length x1 : Int))) else false) then (bif (bif (g_cz ((rdL (e := S_BatSig) x0 h0), ((rdL (e := S_BatSig) x1 h0), ()))).1 then false else true) then (some (false, ())) else (r_d0 g_cz (x0, x1, ()) k pt1 (h0_d0 x0 x1 (w64 (h0 + (1 : Int)))))) else none) else none) else (some (true, ()))) := by kernel_rfl
theorem S_d0 (h_cz : C_cz (fun _ => true) g_cz) {pre : In_d0 -> Bool} {fn : In_d0 -> Out_d0} (hev : ∀ x, pre x = true -> ∃ k, E_d0 g_cz k x = some (fn x)) : C_d0 pre fn := sound tysOk mixed (fn := Tryz.f74) rfl rfl rfl (.cons h_cz .nil) _ hev
end
/-! d1: leqBoolS -/
abbrev M_d1 : List Vm.Mode := [.imm L_bool, .imm L_bool]
abbrev R_d1 : List (RK × Sh) := [(.imm, .bool)]
abbrev In_d1 : Type := (insSh M_d1).den
abbrev Out_d1 : Type := (outSh R_d1 M_d1).den
abbrev C_d1 (pre : In_d1 -> Bool) (fn : In_d1 -> Out_d1) : Prop := Sound Tryz.prog 75 ⟨M_d1, R_d1, pre, fn⟩
abbrev X_d1 : Ctx := ctx tys 26 (conOf []) (keepOf [(pt1, (⟨[(0, .asis), (1, .asis), (5, .asis)], [], []⟩ : Keep))]) (fun _ => [])
noncomputable abbrev E_d1 (k : Nat) (x : In_d1) : Option Out_d1 := evFn X_d1 Tryz.f75 R_d1 M_d1 k x
def h0_d1 (x0 : Dm (.imm L_bool)) (x1 : Dm (.imm L_bool)) (h0 : Dn I) : St := mkS [(0, (AV.val L_bool x0)), (1, (AV.val L_bool x1)), (5, (AV.val I h0))] []
noncomputable def r_d1 (x : In_d1) (k : Nat) (p : List Bool) (s : St) : Option Out_d1 := rounds X_d1 Tryz.f75 R_d1 M_d1 x k p s
theorem ev_d1 (k : Nat) (x0 : Dm (.imm L_bool)) (x1 : Dm (.imm L_bool)) : E_d1 k (x0, x1, ()) =
  (bif (bif (decide ((List.length x0 : Int) = (List.length x1 : Int))) then false else true) then (some (false, ())) else (r_d1  (x0, x1, ()) k pt1 (h0_d1 x0 x1 (0 : Int)))) := by kernel_rfl
theorem rd0_d1 (k : Nat) (x0 : Dm (.imm L_bool)) (x1 : Dm (.imm L_bool)) (h0 : Dn I) : r_d1  (x0, x1, ()) (k + 1) pt1 (h0_d1 x0 x1 h0) =
  (bif (decide (h0 < (List.length x0 : Int))) then (bif (bif (decide ((0 : Int) <= h0)) then (decide (h0 < (List.length x0 : Int))) else false) then (bif (bif (decide ((0 : Int) <= h0)) then (decide (h0 < (List.length x1 : Int))) else false) then (bif (bif ((rdL (e := Sh.bool) x0 h0) == (rdL (e := Sh.bool) x1 h0)) then false else true) then (some (false, ())) else (r_d1  (x0, x1, ()) k pt1 (h0_d1 x0 x1 (w64 (h0 + (1 : Int)))))) else none) else none) else (some (true, ()))) := by kernel_rfl
theorem S_d1  {pre : In_d1 -> Bool} {fn : In_d1 -> Out_d1} (hev : ∀ x, pre x = true -> ∃ k, E_d1 k x = some (fn x)) : C_d1 pre fn := sound tysOk mixed (fn := Tryz.f75) rfl rfl rfl ConsOk.nil _ hev
/-! d2: leqBatBatch -/
abbrev M_d2 : List Vm.Mode := [.imm S_BatBatch, .imm S_BatBatch]
abbrev R_d2 : List (RK × Sh) := [(.imm, .bool)]
abbrev In_d2 : Type := (insSh M_d2).den
abbrev Out_d2 : Type := (outSh R_d2 M_d2).den
abbrev C_d2 (pre : In_d2 -> Bool) (fn : In_d2 -> Out_d2) : Prop := Sound Tryz.prog 19 ⟨M_d2, R_d2, pre, fn⟩
section
variable (g_cy : In_cy -> Out_cy) (p_cy : In_cy -> Bool) (g_d0 : In_d0 -> Out_d0) (p_d0 : In_d0 -> Bool) (g_d1 : In_d1 -> Out_d1) (p_d1 : In_d1 -> Bool)
abbrev X_d2 : Ctx := ctx tys 38 (conOf [(73, ⟨M_cy, R_cy, p_cy, g_cy⟩), (74, ⟨M_d0, R_d0, p_d0, g_d0⟩), (75, ⟨M_d1, R_d1, p_d1, g_d1⟩)]) (keepOf []) (fun _ => [])
noncomputable abbrev E_d2 (k : Nat) (x : In_d2) : Option Out_d2 := evFn (X_d2 g_cy p_cy g_d0 p_d0 g_d1 p_d1) Tryz.f19 R_d2 M_d2 k x
variable {g_cy p_cy g_d0 p_d0 g_d1 p_d1}
theorem ev_d2 (k : Nat) (x0 : Dm (.imm S_BatBatch)) (x1 : Dm (.imm S_BatBatch)) : E_d2 g_cy p_cy g_d0 p_d0 g_d1 p_d1 k (x0, x1, ()) =
  (bif (bif (decide (x0.1 = x1.1)) then false else true) then (some (false, ())) else (bif (bif (decide (x0.2.1 = x1.2.1)) then false else true) then (some (false, ())) else (cl (p_cy (x0.2.2.1, (x1.2.2.1, ()))) (g_cy (x0.2.2.1, (x1.2.2.1, ()))) fun y0 => (bif (bif y0.1 then false else true) then (some (false, ())) else (bif (bif (decide (x0.2.2.2.1 = x1.2.2.2.1)) then false else true) then (some (false, ())) else (cl (p_d0 (x0.2.2.2.2.1, (x1.2.2.2.2.1, ()))) (g_d0 (x0.2.2.2.2.1, (x1.2.2.2.2.1, ()))) fun y1 => (bif (bif y1.1 then false else true) then (some (false, ())) else (cl (p_d1 (x0.2.2.2.2.2, (x1.2.2.2.2.2, ()))) (g_d1 (x0.2.2.2.2.2, (x1.2.2.2.2.2, ()))) fun y2 => (bif (bif y2.1 then false else true) then (some (false, ())) else (some (true, ()))))))))))) := by kernel_rfl
theorem S_d2 (h_cy : C_cy p_cy g_cy) (h_d0 : C_d0 p_d0 g_d0) (h_d1 : C_d1 p_d1 g_d1) {pre : In_d2 -> Bool} {fn : In_d2 -> Out_d2} (hev : ∀ x, pre x = true -> ∃ k, E_d2 g_cy p_cy g_d0 p_d0 g_d1 p_d1 k x = some (fn x)) : C_d2 pre fn := sound tysOk mixed (fn := Tryz.f19) rfl rfl rfl (.cons h_cy (.cons h_d0 (.cons h_d1 .nil))) _ hev
end
/-! d3: lmarkDecDecS -/
abbrev M_d3 : List Vm.Mode := [.lend 55 S_DecDec, .imm I]
abbrev R_d3 : List (RK × Sh) := [(.imm, I)]
abbrev In_d3 : Type := (insSh M_d3).den
abbrev Out_d3 : Type := (outSh R_d3 M_d3).den
abbrev C_d3 (pre : In_d3 -> Bool) (fn : In_d3 -> Out_d3) : Prop := Sound Tryz.prog 150 ⟨M_d3, R_d3, pre, fn⟩
abbrev X_d3 : Ctx := ctx tys 27 (conOf []) (keepOf [(pt0, (⟨[(0, .asis), (1, .asis), (5, .asis)], [], [5000]⟩ : Keep))]) (fun _ => [])
noncomputable abbrev E_d3 (k : Nat) (x : In_d3) : Option Out_d3 := evFn X_d3 Tryz.f150 R_d3 M_d3 k x
def h0_d3 (x0 : Dm (.lend 55 S_DecDec)) (x1 : Dm (.imm I)) (h0 : Dn I) (h1 : Dn I) (h2 : (List (Dn S_DecDec))) : St := mkS [(0, (AV.sref 5000 none [])), (1, (AV.val I h0)), (5, (AV.val I h1))] [(5000, (Ob.arr 55 S_DecDec h2))]
noncomputable def r_d3 (x : In_d3) (k : Nat) (p : List Bool) (s : St) : Option Out_d3 := rounds X_d3 Tryz.f150 R_d3 M_d3 x k p s
theorem ev_d3 (k : Nat) (x0 : Dm (.lend 55 S_DecDec)) (x1 : Dm (.imm I)) : E_d3 k (x0, x1, ()) =
  (r_d3  (x0, x1, ()) k pt0 (h0_d3 x0 x1 x1 (0 : Int) x0)) := by kernel_rfl
theorem rd0_d3 (k : Nat) (x0 : Dm (.lend 55 S_DecDec)) (x1 : Dm (.imm I)) (h0 : Dn I) (h1 : Dn I) (h2 : (List (Dn S_DecDec))) : r_d3  (x0, x1, ()) (k + 1) pt0 (h0_d3 x0 x1 h0 h1 h2) =
  (bif (decide (h1 < (List.length h2 : Int))) then (bif (bif (decide ((0 : Int) <= h1)) then (decide (h1 < (List.length h2 : Int))) else false) then (bif (bif (decide ((0 : Int) <= h1)) then (decide (h1 < (List.length (List.set h2 (Int.toNat h1) (h0, (rdL (e := S_DecDec) h2 h1).2)) : Int))) else false) then (r_d3  (x0, x1, ()) k pt0 (h0_d3 x0 x1 (w64 ((w64 (h0 + (1 : Int))) + (1 : Int))) (w64 (h1 + (1 : Int))) (List.set (List.set h2 (Int.toNat h1) (h0, (rdL (e := S_DecDec) h2 h1).2)) (Int.toNat h1) ((rdL (e := S_DecDec) (List.set h2 (Int.toNat h1) (h0, (rdL (e := S_DecDec) h2 h1).2)) h1).1, (w64 (h0 + (1 : Int))))))) else none) else none) else (some (h0, (h2, ())))) := by kernel_rfl
theorem S_d3  {pre : In_d3 -> Bool} {fn : In_d3 -> Out_d3} (hev : ∀ x, pre x = true -> ∃ k, E_d3 k x = some (fn x)) : C_d3 pre fn := sound tysOk mixed (fn := Tryz.f150) rfl rfl rfl ConsOk.nil _ hev
/-! d4: lmarkTstTestS -/
abbrev M_d4 : List Vm.Mode := [.lend 66 S_TstTest, .imm I]
abbrev R_d4 : List (RK × Sh) := [(.imm, I)]
abbrev In_d4 : Type := (insSh M_d4).den
abbrev Out_d4 : Type := (outSh R_d4 M_d4).den
abbrev C_d4 (pre : In_d4 -> Bool) (fn : In_d4 -> Out_d4) : Prop := Sound Tryz.prog 76 ⟨M_d4, R_d4, pre, fn⟩
section
variable (g_d3 : In_d3 -> Out_d3) (p_d3 : In_d3 -> Bool)
abbrev X_d4 : Ctx := ctx tys 102 (conOf [(150, ⟨M_d3, R_d3, p_d3, g_d3⟩)]) (keepOf [(pt0, (⟨[(0, .asis), (1, .asis), (5, .asis)], [], [5000]⟩ : Keep))]) (fun _ => [])
noncomputable abbrev E_d4 (k : Nat) (x : In_d4) : Option Out_d4 := evFn (X_d4 g_d3 p_d3) Tryz.f76 R_d4 M_d4 k x
def h0_d4 (x0 : Dm (.lend 66 S_TstTest)) (x1 : Dm (.imm I)) (h0 : Dn I) (h1 : Dn I) (h2 : (List (Dn S_TstTest))) : St := mkS [(0, (AV.sref 5000 none [])), (1, (AV.val I h0)), (5, (AV.val I h1))] [(5000, (Ob.arr 66 S_TstTest h2))]
noncomputable def r_d4 (x : In_d4) (k : Nat) (p : List Bool) (s : St) : Option Out_d4 := rounds (X_d4 g_d3 p_d3) Tryz.f76 R_d4 M_d4 x k p s
variable {g_d3 p_d3}
theorem ev_d4 (k : Nat) (x0 : Dm (.lend 66 S_TstTest)) (x1 : Dm (.imm I)) : E_d4 g_d3 p_d3 k (x0, x1, ()) =
  (r_d4 g_d3 p_d3 (x0, x1, ()) k pt0 (h0_d4 x0 x1 x1 (0 : Int) x0)) := by kernel_rfl
theorem rd0_d4 (k : Nat) (x0 : Dm (.lend 66 S_TstTest)) (x1 : Dm (.imm I)) (h0 : Dn I) (h1 : Dn I) (h2 : (List (Dn S_TstTest))) : r_d4 g_d3 p_d3 (x0, x1, ()) (k + 1) pt0 (h0_d4 x0 x1 h0 h1 h2) =
  (lt (rdL (e := S_TstTest) h2 h1) fun t0 => (lt (List.set h2 (Int.toNat h1) ((h0, t0.1.2), t0.2)) fun s0 => (lt (rdL (e := S_TstTest) s0 h1) fun t1 => (lt (List.set s0 (Int.toNat h1) ((t1.1.1, (((w64 (h0 + (1 : Int))), t1.1.2.1.2), t1.1.2.2)), t1.2)) fun t2 => (lt (rdL (e := S_TstTest) t2 h1) fun t3 => (lt (w64 ((w64 (h0 + (1 : Int))) + (1 : Int))) fun t4 => (lt (List.set t2 (Int.toNat h1) ((t3.1.1, ((t3.1.2.1.1, t4), t3.1.2.2)), t3.2)) fun t5 => (lt (rdL (e := S_TstTest) t5 h1) fun t6 => (lt (List.set t5 (Int.toNat h1) ((t6.1.1, (t6.1.2.1, (((w64 (t4 + (1 : Int))), t6.1.2.2.1.2), t6.1.2.2.2))), t6.2)) fun t7 => (lt (rdL (e := S_TstTest) t7 h1) fun t8 => (lt (w64 ((w64 (t4 + (1 : Int))) + (1 : Int))) fun t9 => (lt (List.set t7 (Int.toNat h1) ((t8.1.1, (t8.1.2.1, ((t8.1.2.2.1.1, t9), t8.1.2.2.2))), t8.2)) fun t10 => (lt (rdL (e := S_TstTest) t10 h1) fun t11 => (lt (List.set t10 (Int.toNat h1) ((t11.1.1, (t11.1.2.1, (t11.1.2.2.1, (w64 (t9 + (1 : Int)))))), t11.2)) fun t12 => (lt (rdL (e := S_TstTest) t12 h1) fun t13 => (lt (w64 ((w64 (t9 + (1 : Int))) + (1 : Int))) fun t14 => (lt (List.set t12 (Int.toNat h1) (t13.1, (t14, t13.2.2))) fun s1 => (lt (rdL (e := S_TstTest) s1 h1) fun t15 => (lt (List.set s1 (Int.toNat h1) (t15.1, (t15.2.1, (((w64 (t14 + (1 : Int))), t15.2.2.1.2), t15.2.2.2)))) fun t16 => (lt (rdL (e := S_TstTest) t16 h1) fun t17 => (lt (w64 ((w64 (t14 + (1 : Int))) + (1 : Int))) fun t18 => (lt (List.set t16 (Int.toNat h1) (t17.1, (t17.2.1, ((t17.2.2.1.1, t18), t17.2.2.2)))) fun t19 => (lt (rdL (e := S_TstTest) t19 h1) fun t20 => (lt (List.set t19 (Int.toNat h1) (t20.1, (t20.2.1, (t20.2.2.1, ((w64 (t18 + (1 : Int))), t20.2.2.2.2))))) fun t21 => (lt (rdL (e := S_TstTest) t21 h1) fun t22 => (lt (w64 ((w64 (t18 + (1 : Int))) + (1 : Int))) fun t23 => (bif (decide (h1 < (List.length h2 : Int))) then (bif (bif (decide ((0 : Int) <= h1)) then (decide (h1 < (List.length h2 : Int))) else false) then (bif (bif (decide ((0 : Int) <= h1)) then (decide (h1 < (List.length s0 : Int))) else false) then (bif (bif (decide ((0 : Int) <= h1)) then (decide (h1 < (List.length t2 : Int))) else false) then (bif (bif (decide ((0 : Int) <= h1)) then (decide (h1 < (List.length t5 : Int))) else false) then (bif (bif (decide ((0 : Int) <= h1)) then (decide (h1 < (List.length t7 : Int))) else false) then (bif (bif (decide ((0 : Int) <= h1)) then (decide (h1 < (List.length t10 : Int))) else false) then (bif (bif (decide ((0 : Int) <= h1)) then (decide (h1 < (List.length t12 : Int))) else false) then (bif (bif (decide ((0 : Int) <= h1)) then (decide (h1 < (List.length s1 : Int))) else false) then (bif (bif (decide ((0 : Int) <= h1)) then (decide (h1 < (List.length t16 : Int))) else false) then (bif (bif (decide ((0 : Int) <= h1)) then (decide (h1 < (List.length t19 : Int))) else false) then (bif (bif (decide ((0 : Int) <= h1)) then (decide (h1 < (List.length t21 : Int))) else false) then (cl (p_d3 (t22.2.2.2.2, (t23, ()))) (g_d3 (t22.2.2.2.2, (t23, ()))) fun y0 => (r_d4 g_d3 p_d3 (x0, x1, ()) k pt0 (h0_d4 x0 x1 (y0.1) (w64 (h1 + (1 : Int))) (List.set t21 (Int.toNat h1) (t22.1, (t22.2.1, (t22.2.2.1, (t22.2.2.2.1, y0.2.1)))))))) else none) else none) else none) else none) else none) else none) else none) else none) else none) else none) else none) else (some (h0, (h2, ())))))))))))))))))))))))))))))) := by kernel_rfl
theorem S_d4 (h_d3 : C_d3 p_d3 g_d3) {pre : In_d4 -> Bool} {fn : In_d4 -> Out_d4} (hev : ∀ x, pre x = true -> ∃ k, E_d4 g_d3 p_d3 k x = some (fn x)) : C_d4 pre fn := sound tysOk mixed (fn := Tryz.f76) rfl rfl rfl (.cons h_d3 .nil) _ hev
end
/-! d5: lmarkBatSigS -/
abbrev M_d5 : List Vm.Mode := [.lend 68 S_BatSig, .imm I]
abbrev R_d5 : List (RK × Sh) := [(.imm, I)]
abbrev In_d5 : Type := (insSh M_d5).den
abbrev Out_d5 : Type := (outSh R_d5 M_d5).den
abbrev C_d5 (pre : In_d5 -> Bool) (fn : In_d5 -> Out_d5) : Prop := Sound Tryz.prog 77 ⟨M_d5, R_d5, pre, fn⟩
abbrev X_d5 : Ctx := ctx tys 34 (conOf []) (keepOf [(pt0, (⟨[(0, .asis), (1, .asis), (5, .asis)], [], [5000]⟩ : Keep))]) (fun _ => [])
noncomputable abbrev E_d5 (k : Nat) (x : In_d5) : Option Out_d5 := evFn X_d5 Tryz.f77 R_d5 M_d5 k x
def h0_d5 (x0 : Dm (.lend 68 S_BatSig)) (x1 : Dm (.imm I)) (h0 : Dn I) (h1 : Dn I) (h2 : (List (Dn S_BatSig))) : St := mkS [(0, (AV.sref 5000 none [])), (1, (AV.val I h0)), (5, (AV.val I h1))] [(5000, (Ob.arr 68 S_BatSig h2))]
noncomputable def r_d5 (x : In_d5) (k : Nat) (p : List Bool) (s : St) : Option Out_d5 := rounds X_d5 Tryz.f77 R_d5 M_d5 x k p s
theorem ev_d5 (k : Nat) (x0 : Dm (.lend 68 S_BatSig)) (x1 : Dm (.imm I)) : E_d5 k (x0, x1, ()) =
  (r_d5  (x0, x1, ()) k pt0 (h0_d5 x0 x1 x1 (0 : Int) x0)) := by kernel_rfl
theorem rd0_d5 (k : Nat) (x0 : Dm (.lend 68 S_BatSig)) (x1 : Dm (.imm I)) (h0 : Dn I) (h1 : Dn I) (h2 : (List (Dn S_BatSig))) : r_d5  (x0, x1, ()) (k + 1) pt0 (h0_d5 x0 x1 h0 h1 h2) =
  (lt (rdL (e := S_BatSig) h2 h1) fun s1 => (lt (List.set h2 (Int.toNat h1) (h0, s1.2)) fun s2 => (lt (w64 (h0 + (1 : Int))) fun s0 => (bif (decide (h1 < (List.length h2 : Int))) then (bif (bif (decide ((0 : Int) <= h1)) then (decide (h1 < (List.length h2 : Int))) else false) then (bif (bif (decide ((0 : Int) <= h1)) then (decide (h1 < (List.length s2 : Int))) else false) then (bif (bif (decide ((0 : Int) <= h1)) then (decide (h1 < (List.length (List.set s2 (Int.toNat h1) ((rdL (e := S_BatSig) s2 h1).1, (s0, (rdL (e := S_BatSig) s2 h1).2.2))) : Int))) else false) then (r_d5  (x0, x1, ()) k pt0 (h0_d5 x0 x1 (w64 ((w64 (s0 + (1 : Int))) + (1 : Int))) (w64 (h1 + (1 : Int))) (List.set (List.set s2 (Int.toNat h1) ((rdL (e := S_BatSig) s2 h1).1, (s0, (rdL (e := S_BatSig) s2 h1).2.2))) (Int.toNat h1) ((rdL (e := S_BatSig) (List.set s2 (Int.toNat h1) ((rdL (e := S_BatSig) s2 h1).1, (s0, (rdL (e := S_BatSig) s2 h1).2.2))) h1).1, ((rdL (e := S_BatSig) (List.set s2 (Int.toNat h1) ((rdL (e := S_BatSig) s2 h1).1, (s0, (rdL (e := S_BatSig) s2 h1).2.2))) h1).2.1, (w64 (s0 + (1 : Int)))))))) else none) else none) else none) else (some (h0, (h2, ()))))))) := by kernel_rfl
theorem S_d5  {pre : In_d5 -> Bool} {fn : In_d5 -> Out_d5} (hev : ∀ x, pre x = true -> ∃ k, E_d5 k x = some (fn x)) : C_d5 pre fn := sound tysOk mixed (fn := Tryz.f77) rfl rfl rfl ConsOk.nil _ hev
/-! d6: lmarkBoolS -/
abbrev M_d6 : List Vm.Mode := [.lend 4 .bool, .imm I]
abbrev R_d6 : List (RK × Sh) := [(.imm, I)]
abbrev In_d6 : Type := (insSh M_d6).den
abbrev Out_d6 : Type := (outSh R_d6 M_d6).den
abbrev C_d6 (pre : In_d6 -> Bool) (fn : In_d6 -> Out_d6) : Prop := Sound Tryz.prog 78 ⟨M_d6, R_d6, pre, fn⟩
abbrev X_d6 : Ctx := ctx tys 21 (conOf []) (keepOf [(pt0, (⟨[(0, .asis), (1, .asis), (5, .asis)], [], [5000]⟩ : Keep))]) (fun _ => [])
noncomputable abbrev E_d6 (k : Nat) (x : In_d6) : Option Out_d6 := evFn X_d6 Tryz.f78 R_d6 M_d6 k x
def h0_d6 (x0 : Dm (.lend 4 .bool)) (x1 : Dm (.imm I)) (h0 : Dn I) (h1 : Dn I) (h2 : (List (Dn Sh.bool))) : St := mkS [(0, (AV.sref 5000 none [])), (1, (AV.val I h0)), (5, (AV.val I h1))] [(5000, (Ob.arr 4 Sh.bool h2))]
noncomputable def r_d6 (x : In_d6) (k : Nat) (p : List Bool) (s : St) : Option Out_d6 := rounds X_d6 Tryz.f78 R_d6 M_d6 x k p s
theorem ev_d6 (k : Nat) (x0 : Dm (.lend 4 .bool)) (x1 : Dm (.imm I)) : E_d6 k (x0, x1, ()) =
  (r_d6  (x0, x1, ()) k pt0 (h0_d6 x0 x1 x1 (0 : Int) x0)) := by kernel_rfl
theorem rd0_d6 (k : Nat) (x0 : Dm (.lend 4 .bool)) (x1 : Dm (.imm I)) (h0 : Dn I) (h1 : Dn I) (h2 : (List (Dn Sh.bool))) : r_d6  (x0, x1, ()) (k + 1) pt0 (h0_d6 x0 x1 h0 h1 h2) =
  (bif (decide (h1 < (List.length h2 : Int))) then (bif (bif (decide ((3 : Int) = (0 : Int))) then false else true) then (bif (bif (decide ((0 : Int) <= h1)) then (decide (h1 < (List.length h2 : Int))) else false) then (r_d6  (x0, x1, ()) k pt0 (h0_d6 x0 x1 (w64 (h0 + (1 : Int))) (w64 (h1 + (1 : Int))) (List.set h2 (Int.toNat h1) (decide ((Int.tmod h0 (3 : Int)) = (0 : Int)))))) else none) else none) else (some (h0, (h2, ())))) := by kernel_rfl
theorem S_d6  {pre : In_d6 -> Bool} {fn : In_d6 -> Out_d6} (hev : ∀ x, pre x = true -> ∃ k, E_d6 k x = some (fn x)) : C_d6 pre fn := sound tysOk mixed (fn := Tryz.f78) rfl rfl rfl ConsOk.nil _ hev
/-! d7: lmarkBatBatch -/
abbrev M_d7 : List Vm.Mode := [.loan S_BatBatch, .imm I]
abbrev R_d7 : List (RK × Sh) := [(.imm, I)]
abbrev In_d7 : Type := (insSh M_d7).den
abbrev Out_d7 : Type := (outSh R_d7 M_d7).den
abbrev C_d7 (pre : In_d7 -> Bool) (fn : In_d7 -> Out_d7) : Prop := Sound Tryz.prog 20 ⟨M_d7, R_d7, pre, fn⟩
section
variable (g_d4 : In_d4 -> Out_d4) (p_d4 : In_d4 -> Bool) (g_d5 : In_d5 -> Out_d5) (p_d5 : In_d5 -> Bool) (g_d6 : In_d6 -> Out_d6) (p_d6 : In_d6 -> Bool)
abbrev X_d7 : Ctx := ctx tys 18 (conOf [(76, ⟨M_d4, R_d4, p_d4, g_d4⟩), (77, ⟨M_d5, R_d5, p_d5, g_d5⟩), (78, ⟨M_d6, R_d6, p_d6, g_d6⟩)]) (keepOf []) (fun _ => [])
noncomputable abbrev E_d7 (k : Nat) (x : In_d7) : Option Out_d7 := evFn (X_d7 g_d4 p_d4 g_d5 p_d5 g_d6 p_d6) Tryz.f20 R_d7 M_d7 k x
variable {g_d4 p_d4 g_d5 p_d5 g_d6 p_d6}
theorem ev_d7 (k : Nat) (x0 : Dm (.loan S_BatBatch)) (x1 : Dm (.imm I)) : E_d7 g_d4 p_d4 g_d5 p_d5 g_d6 p_d6 k (x0, x1, ()) =
  (cl (p_d4 (x0.2.2.1, (x1, ()))) (g_d4 (x0.2.2.1, (x1, ()))) fun y0 => (cl (p_d5 (x0.2.2.2.2.1, (y0.1, ()))) (g_d5 (x0.2.2.2.2.1, (y0.1, ()))) fun y1 => (cl (p_d6 (x0.2.2.2.2.2, (y1.1, ()))) (g_d6 (x0.2.2.2.2.2, (y1.1, ()))) fun y2 => (some (y2.1, ((x0.1, (x0.2.1, (y0.2.1, (x0.2.2.2.1, (y1.2.1, y2.2.1))))), ())))))) := by kernel_rfl
theorem S_d7 (h_d4 : C_d4 p_d4 g_d4) (h_d5 : C_d5 p_d5 g_d5) (h_d6 : C_d6 p_d6 g_d6) {pre : In_d7 -> Bool} {fn : In_d7 -> Out_d7} (hev : ∀ x, pre x = true -> ∃ k, E_d7 g_d4 p_d4 g_d5 p_d5 g_d6 p_d6 k x = some (fn x)) : C_d7 pre fn := sound tysOk mixed (fn := Tryz.f20) rfl rfl rfl (.cons h_d4 (.cons h_d5 (.cons h_d6 .nil))) _ hev
end
/-! d8: lheldDecDecS -/
abbrev M_d8 : List Vm.Mode := [.imm L_DecDec, .imm I]
abbrev R_d8 : List (RK × Sh) := [(.imm, I)]
abbrev In_d8 : Type := (insSh M_d8).den
abbrev Out_d8 : Type := (outSh R_d8 M_d8).den
abbrev C_d8 (pre : In_d8 -> Bool) (fn : In_d8 -> Out_d8) : Prop := Sound Tryz.prog 151 ⟨M_d8, R_d8, pre, fn⟩
abbrev X_d8 : Ctx := ctx tys 31 (conOf []) (keepOf [(pt0, (⟨[(0, .asis), (1, .asis), (5, .asis)], [], []⟩ : Keep))]) (fun _ => [])
noncomputable abbrev E_d8 (k : Nat) (x : In_d8) : Option Out_d8 := evFn X_d8 Tryz.f151 R_d8 M_d8 k x
def h0_d8 (x0 : Dm (.imm L_DecDec)) (x1 : Dm (.imm I)) (h0 : Dn I) (h1 : Dn I) : St := mkS [(0, (AV.val L_DecDec x0)), (1, (AV.val I h0)), (5, (AV.val I h1))] []
noncomputable def r_d8 (x : In_d8) (k : Nat) (p : List Bool) (s : St) : Option Out_d8 := rounds X_d8 Tryz.f151 R_d8 M_d8 x k p s
theorem ev_d8 (k : Nat) (x0 : Dm (.imm L_DecDec)) (x1 : Dm (.imm I)) : E_d8 k (x0, x1, ()) =
  (r_d8  (x0, x1, ()) k pt0 (h0_d8 x0 x1 x1 (0 : Int))) := by kernel_rfl
theorem rd0_d8 (k : Nat) (x0 : Dm (.imm L_DecDec)) (x1 : Dm (.imm I)) (h0 : Dn I) (h1 : Dn I) : r_d8  (x0, x1, ()) (k + 1) pt0 (h0_d8 x0 x1 h0 h1) =
  (bif (decide (h1 < (List.length x0 : Int))) then (bif (bif (decide ((0 : Int) <= h1)) then (decide (h1 < (List.length x0 : Int))) else false) then (bif (bif (decide ((rdL (e := S_DecDec) x0 h1).1 = h0)) then false else true) then (some ((-1 : Int), ())) else (bif (bif (decide ((0 : Int) <= h1)) then (decide (h1 < (List.length x0 : Int))) else false) then (bif (bif (decide ((rdL (e := S_DecDec) x0 h1).2 = (w64 (h0 + (1 : Int))))) then false else true) then (some ((-1 : Int), ())) else (r_d8  (x0, x1, ()) k pt0 (h0_d8 x0 x1 (w64 ((w64 (h0 + (1 : Int))) + (1 : Int))) (w64 (h1 + (1 : Int)))))) else none)) else none) else (some (h0, ()))) := by kernel_rfl
theorem S_d8  {pre : In_d8 -> Bool} {fn : In_d8 -> Out_d8} (hev : ∀ x, pre x = true -> ∃ k, E_d8 k x = some (fn x)) : C_d8 pre fn := sound tysOk mixed (fn := Tryz.f151) rfl rfl rfl ConsOk.nil _ hev
/-! d9: lheldTstTestS -/
abbrev M_d9 : List Vm.Mode := [.imm L_TstTest, .imm I]
abbrev R_d9 : List (RK × Sh) := [(.imm, I)]
abbrev In_d9 : Type := (insSh M_d9).den
abbrev Out_d9 : Type := (outSh R_d9 M_d9).den
abbrev C_d9 (pre : In_d9 -> Bool) (fn : In_d9 -> Out_d9) : Prop := Sound Tryz.prog 79 ⟨M_d9, R_d9, pre, fn⟩
section
variable (g_d8 : In_d8 -> Out_d8) (p_d8 : In_d8 -> Bool)
abbrev X_d9 : Ctx := ctx tys 124 (conOf [(151, ⟨M_d8, R_d8, p_d8, g_d8⟩)]) (keepOf [(pt0, (⟨[(0, .asis), (1, .asis), (5, .asis)], [], []⟩ : Keep))]) (fun _ => [])
noncomputable abbrev E_d9 (k : Nat) (x : In_d9) : Option Out_d9 := evFn (X_d9 g_d8 p_d8) Tryz.f79 R_d9 M_d9 k x
def h0_d9 (x0 : Dm (.imm L_TstTest)) (x1 : Dm (.imm I)) (h0 : Dn I) (h1 : Dn I) : St := mkS [(0, (AV.val L_TstTest x0)), (1, (AV.val I h0)), (5, (AV.val I h1))] []
noncomputable def r_d9 (x : In_d9) (k : Nat) (p : List Bool) (s : St) : Option Out_d9 := rounds (X_d9 g_d8 p_d8) Tryz.f79 R_d9 M_d9 x k p s
variable {g_d8 p_d8}
theorem ev_d9 (k : Nat) (x0 : Dm (.imm L_TstTest)) (x1 : Dm (.imm I)) : E_d9 g_d8 p_d8 k (x0, x1, ()) =
  (r_d9 g_d8 p_d8 (x0, x1, ()) k pt0 (h0_d9 x0 x1 x1 (0 : Int))) := by kernel_rfl
theorem rd0_d9 (k : Nat) (x0 : Dm (.imm L_TstTest)) (x1 : Dm (.imm I)) (h0 : Dn I) (h1 : Dn I) : r_d9 g_d8 p_d8 (x0, x1, ()) (k + 1) pt0 (h0_d9 x0 x1 h0 h1) =
  (lt (rdL (e := S_TstTest) x0 h1) fun s9 => (lt (w64 (h0 + (1 : Int))) fun s0 => (lt (w64 (s0 + (1 : Int))) fun s1 => (lt (w64 (s1 + (1 : Int))) fun s2 => (lt (w64 (s2 + (1 : Int))) fun s3 => (lt (w64 (s3 + (1 : Int))) fun s4 => (lt (w64 (s4 + (1 : Int))) fun s5 => (lt (w64 (s5 + (1 : Int))) fun s6 => (lt (w64 (s6 + (1 : Int))) fun s7 => (lt (w64 (s7 + (1 : Int))) fun s8 => (bif (decide (h1 < (List.length x0 : Int))) then (bif (bif (decide ((0 : Int) <= h1)) then (decide (h1 < (List.length x0 : Int))) else false) then (bif (bif (decide (s9.1.1 = h0)) then false else true) then (some ((-1 : Int), ())) else (bif (bif (decide ((0 : Int) <= h1)) then (decide (h1 < (List.length x0 : Int))) else false) then (bif (bif (decide (s9.1.2.1.1 = s0)) then false else true) then (some ((-1 : Int), ())) else (bif (bif (decide ((0 : Int) <= h1)) then (decide (h1 < (List.length x0 : Int))) else false) then (bif (bif (decide (s9.1.2.1.2 = s1)) then false else true) then (some ((-1 : Int), ())) else (bif (bif (decide ((0 : Int) <= h1)) then (decide (h1 < (List.length x0 : Int))) else false) then (bif (bif (decide (s9.1.2.2.1.1 = s2)) then false else true) then (some ((-1 : Int), ())) else (bif (bif (decide ((0 : Int) <= h1)) then (decide (h1 < (List.length x0 : Int))) else false) then (bif (bif (decide (s9.1.2.2.1.2 = s3)) then false else true) then (some ((-1 : Int), ())) else (bif (bif (decide ((0 : Int) <= h1)) then (decide (h1 < (List.length x0 : Int))) else false) then (bif (bif (decide (s9.1.2.2.2 = s4)) then false else true) then (some ((-1 : Int), ())) else (bif (bif (decide ((0 : Int) <= h1)) then (decide (h1 < (List.length x0 : Int))) else false) then (bif (bif (decide (s9.2.1 = s5)) then false else true) then (some ((-1 : Int), ())) else (bif (bif (decide ((0 : Int) <= h1)) then (decide (h1 < (List.length x0 : Int))) else false) then (bif (bif (decide (s9.2.2.1.1 = s6)) then false else true) then (some ((-1 : Int), ())) else (bif (bif (decide ((0 : Int) <= h1)) then (decide (h1 < (List.length x0 : Int))) else false) then (bif (bif (decide (s9.2.2.1.2 = s7)) then false else true) then (some ((-1 : Int), ())) else (bif (bif (decide ((0 : Int) <= h1)) then (decide (h1 < (List.length x0 : Int))) else false) then (bif (bif (decide (s9.2.2.2.1 = s8)) then false else true) then (some ((-1 : Int), ())) else (bif (bif (decide ((0 : Int) <= h1)) then (decide (h1 < (List.length x0 : Int))) else false) then (cl (p_d8 (s9.2.2.2.2, ((w64 (s8 + (1 : Int))), ()))) (g_d8 (s9.2.2.2.2, ((w64 (s8 + (1 : Int))), ()))) fun y0 => (bif (decide (y0.1 < (0 : Int))) then (some ((-1 : Int), ())) else (r_d9 g_d8 p_d8 (x0, x1, ()) k pt0 (h0_d9 x0 x1 (y0.1) (w64 (h1 + (1 : Int))))))) else none)) else none)) else none)) else none)) else none)) else none)) else none)) else none)) else none)) else none)) else none) else (some (h0, ()))))))))))))) := by kernel_rfl
theorem S_d9 (h_d8 : C_d8 p_d8 g_d8) {pre : In_d9 -> Bool} {fn : In_d9 -> Out_d9} (hev : ∀ x, pre x = true -> ∃ k, E_d9 g_d8 p_d8 k x = some (fn x)) : C_d9 pre fn := sound tysOk mixed (fn := Tryz.f79) rfl rfl rfl (.cons h_d8 .nil) _ hev
end
/-! da: lheldBatSigS -/
abbrev M_da : List Vm.Mode := [.imm L_BatSig, .imm I]
abbrev R_da : List (RK × Sh) := [(.imm, I)]
abbrev In_da : Type := (insSh M_da).den
abbrev Out_da : Type := (outSh R_da M_da).den
abbrev C_da (pre : In_da -> Bool) (fn : In_da -> Out_da) : Prop := Sound Tryz.prog 80 ⟨M_da, R_da, pre, fn⟩
abbrev X_da : Ctx := ctx tys 40 (conOf []) (keepOf [(pt0, (⟨[(0, .asis), (1, .asis), (5, .asis)], [], []⟩ : Keep))]) (fun _ => [])
noncomputable abbrev E_da (k : Nat) (x : In_da) : Option Out_da := evFn X_da Tryz.f80 R_da M_da k x
def h0_da (x0 : Dm (.imm L_BatSig)) (x1 : Dm (.imm I)) (h0 : Dn I) (h1 : Dn I) : St := mkS [(0, (AV.val L_BatSig x0)), (1, (AV.val I h0)), (5, (AV.val I h1))] []
noncomputable def r_da (x : In_da) (k : Nat) (p : List Bool) (s : St) : Option Out_da := rounds X_da Tryz.f80 R_da M_da x k p s
theorem ev_da (k : Nat) (x0 : Dm (.imm L_BatSig)) (x1 : Dm (.imm I)) : E_da k (x0, x1, ()) =
  (r_da  (x0, x1, ()) k pt0 (h0_da x0 x1 x1 (0 : Int))) := by kernel_rfl
theorem rd0_da (k : Nat) (x0 : Dm (.imm L_BatSig)) (x1 : Dm (.imm I)) (h0 : Dn I) (h1 : Dn I) : r_da  (x0, x1, ()) (k + 1) pt0 (h0_da x0 x1 h0 h1) =
  (bif (decide (h1 < (List.length x0 : Int))) then (bif (bif (decide ((0 : Int) <= h1)) then (decide (h1 < (List.length x0 : Int))) else false) then (bif (bif (decide ((rdL (e := S_BatSig) x0 h1).1 = h0)) then false else true) then (some ((-1 : Int), ())) else (bif (bif (decide ((0 : Int) <= h1)) then (decide (h1 < (List.length x0 : Int))) else false) then (bif (bif (decide ((rdL (e := S_BatSig) x0 h1).2.1 = (w64 (h0 + (1 : Int))))) then false else true) then (some ((-1 : Int), ())) else (bif (bif (decide ((0 : Int) <= h1)) then (decide (h1 < (List.length x0 : Int))) else false) then (bif (bif (decide ((rdL (e := S_BatSig) x0 h1).2.2 = (w64 ((w64 (h0 + (1 : Int))) + (1 : Int))))) then false else true) then (some ((-1 : Int), ())) else (r_da  (x0, x1, ()) k pt0 (h0_da x0 x1 (w64 ((w64 ((w64 (h0 + (1 : Int))) + (1 : Int))) + (1 : Int))) (w64 (h1 + (1 : Int)))))) else none)) else none)) else none) else (some (h0, ()))) := by kernel_rfl
theorem S_da  {pre : In_da -> Bool} {fn : In_da -> Out_da} (hev : ∀ x, pre x = true -> ∃ k, E_da k x = some (fn x)) : C_da pre fn := sound tysOk mixed (fn := Tryz.f80) rfl rfl rfl ConsOk.nil _ hev
/-! db: lheldBoolS -/
abbrev M_db : List Vm.Mode := [.imm L_bool, .imm I]
abbrev R_db : List (RK × Sh) := [(.imm, I)]
abbrev In_db : Type := (insSh M_db).den
abbrev Out_db : Type := (outSh R_db M_db).den
abbrev C_db (pre : In_db -> Bool) (fn : In_db -> Out_db) : Prop := Sound Tryz.prog 81 ⟨M_db, R_db, pre, fn⟩
abbrev X_db : Ctx := ctx tys 23 (conOf []) (keepOf [(pt0, (⟨[(0, .asis), (1, .asis), (5, .asis)], [], []⟩ : Keep))]) (fun _ => [])
noncomputable abbrev E_db (k : Nat) (x : In_db) : Option Out_db := evFn X_db Tryz.f81 R_db M_db k x
def h0_db (x0 : Dm (.imm L_bool)) (x1 : Dm (.imm I)) (h0 : Dn I) (h1 : Dn I) : St := mkS [(0, (AV.val L_bool x0)), (1, (AV.val I h0)), (5, (AV.val I h1))] []
noncomputable def r_db (x : In_db) (k : Nat) (p : List Bool) (s : St) : Option Out_db := rounds X_db Tryz.f81 R_db M_db x k p s
theorem ev_db (k : Nat) (x0 : Dm (.imm L_bool)) (x1 : Dm (.imm I)) : E_db k (x0, x1, ()) =
  (r_db  (x0, x1, ()) k pt0 (h0_db x0 x1 x1 (0 : Int))) := by kernel_rfl
theorem rd0_db (k : Nat) (x0 : Dm (.imm L_bool)) (x1 : Dm (.imm I)) (h0 : Dn I) (h1 : Dn I) : r_db  (x0, x1, ()) (k + 1) pt0 (h0_db x0 x1 h0 h1) =
  (bif (decide (h1 < (List.length x0 : Int))) then (bif (bif (decide ((0 : Int) <= h1)) then (decide (h1 < (List.length x0 : Int))) else false) then (bif (bif (decide ((3 : Int) = (0 : Int))) then false else true) then (bif (bif ((rdL (e := Sh.bool) x0 h1) == (decide ((Int.tmod h0 (3 : Int)) = (0 : Int)))) then false else true) then (some ((-1 : Int), ())) else (r_db  (x0, x1, ()) k pt0 (h0_db x0 x1 (w64 (h0 + (1 : Int))) (w64 (h1 + (1 : Int)))))) else none) else none) else (some (h0, ()))) := by kernel_rfl
theorem S_db  {pre : In_db -> Bool} {fn : In_db -> Out_db} (hev : ∀ x, pre x = true -> ∃ k, E_db k x = some (fn x)) : C_db pre fn := sound tysOk mixed (fn := Tryz.f81) rfl rfl rfl ConsOk.nil _ hev
/-! dc: lheldBatBatch -/
abbrev M_dc : List Vm.Mode := [.imm S_BatBatch, .imm I]
abbrev R_dc : List (RK × Sh) := [(.imm, I)]
abbrev In_dc : Type := (insSh M_dc).den
abbrev Out_dc : Type := (outSh R_dc M_dc).den
abbrev C_dc (pre : In_dc -> Bool) (fn : In_dc -> Out_dc) : Prop := Sound Tryz.prog 21 ⟨M_dc, R_dc, pre, fn⟩
section
variable (g_d9 : In_d9 -> Out_d9) (p_d9 : In_d9 -> Bool) (g_da : In_da -> Out_da) (p_da : In_da -> Bool) (g_db : In_db -> Out_db) (p_db : In_db -> Bool)
abbrev X_dc : Ctx := ctx tys 24 (conOf [(79, ⟨M_d9, R_d9, p_d9, g_d9⟩), (80, ⟨M_da, R_da, p_da, g_da⟩), (81, ⟨M_db, R_db, p_db, g_db⟩)]) (keepOf []) (fun _ => [])
noncomputable abbrev E_dc (k : Nat) (x : In_dc) : Option Out_dc := evFn (X_dc g_d9 p_d9 g_da p_da g_db p_db) Tryz.f21 R_dc M_dc k x
variable {g_d9 p_d9 g_da p_da g_db p_db}
theorem ev_dc (k : Nat) (x0 : Dm (.imm S_BatBatch)) (x1 : Dm (.imm I)) : E_dc g_d9 p_d9 g_da p_da g_db p_db k (x0, x1, ()) =
  (cl (p_d9 (x0.2.2.1, (x1, ()))) (g_d9 (x0.2.2.1, (x1, ()))) fun y0 => (bif (decide (y0.1 < (0 : Int))) then (some ((-1 : Int), ())) else (cl (p_da (x0.2.2.2.2.1, (y0.1, ()))) (g_da (x0.2.2.2.2.1, (y0.1, ()))) fun y1 => (bif (decide (y1.1 < (0 : Int))) then (some ((-1 : Int), ())) else (cl (p_db (x0.2.2.2.2.2, (y1.1, ()))) (g_db (x0.2.2.2.2.2, (y1.1, ()))) fun y2 => (bif (decide (y2.1 < (0 : Int))) then (some ((-1 : Int), ())) else (some (y2.1, ())))))))) := by kernel_rfl
theorem S_dc (h_d9 : C_d9 p_d9 g_d9) (h_da : C_da p_da g_da) (h_db : C_db p_db g_db) {pre : In_dc -> Bool} {fn : In_dc -> Out_dc} (hev : ∀ x, pre x = true -> ∃ k, E_dc g_d9 p_d9 g_da p_da g_db p_db k x = some (fn x)) : C_dc pre fn := sound tysOk mixed (fn := Tryz.f21) rfl rfl rfl (.cons h_d9 (.cons h_da (.cons h_db .nil))) _ hev
end
/-! lFnExactBatTest -/
abbrev M_lFnExactBatTest : List Vm.Mode := [.imm S_lBatBatch, .imm I, .imm I, .imm S_DecDec, .imm I]
abbrev R_lFnExactBatTest : List (RK × Sh) := [(.own, .bool)]
abbrev In_lFnExactBatTest : Type := (insSh M_lFnExactBatTest).den
abbrev Out_lFnExactBatTest : Type := (outSh R_lFnExactBatTest M_lFnExactBatTest).den
abbrev C_lFnExactBatTest (pre : In_lFnExactBatTest -> Bool) (fn : In_lFnExactBatTest -> Out_lFnExactBatTest) : Prop := Sound Tryz.prog 5 ⟨M_lFnExactBatTest, R_lFnExactBatTest, pre, fn⟩
section
variable (g_a5 : In_a5 -> Out_a5) (p_a5 : In_a5 -> Bool) (g_ae : In_ae -> Out_ae) (p_ae : In_ae -> Bool) (g_a6 : In_a6 -> Out_a6) (g_b5 : In_b5 -> Out_b5) (p_b5 : In_b5 -> Bool) (g_ct : In_ct -> Out_ct) (p_ct : In_ct -> Bool) (g_d2 : In_d2 -> Out_d2) (p_d2 : In_d2 -> Bool) (g_d7 : In_d7 -> Out_d7) (p_d7 : In_d7 -> Bool) (g_dc : In_dc -> Out_dc) (p_dc : In_dc -> Bool)
abbrev X_lFnExactBatTest : Ctx := ctx tys 119 (conOf [(15, ⟨M_a5, R_a5, p_a5, g_a5⟩), (17, ⟨M_ae, R_ae, p_ae, g_ae⟩), (28, ⟨M_a6, R_a6, fun _ => true, g_a6⟩), (27, ⟨M_b5, R_b5, p_b5, g_b5⟩), (29, ⟨M_ct, R_ct, p_ct, g_ct⟩), (19, ⟨M_d2, R_d2, p_d2, g_d2⟩), (20, ⟨M_d7, R_d7, p_d7, g_d7⟩), (21, ⟨M_dc, R_dc, p_dc, g_dc⟩)]) (keepOf []) (fun _ => [])
noncomputable abbrev E_lFnExactBatTest (k : Nat) (x : In_lFnExactBatTest) : Option Out_lFnExactBatTest := evFn (X_lFnExactBatTest g_a5 p_a5 g_ae p_ae g_a6 g_b5 p_b5 g_ct p_ct g_d2 p_d2 g_d7 p_d7 g_dc p_dc) Tryz.f5 R_lFnExactBatTest M_lFnExactBatTest k x
variable {g_a5 p_a5 g_ae p_ae g_a6 g_b5 p_b5 g_ct p_ct g_d2 p_d2 g_d7 p_d7 g_dc p_dc}
theorem ev_lFnExactBatTest (k : Nat) (x0 : Dm (.imm S_lBatBatch)) (x1 : Dm (.imm I)) (x2 : Dm (.imm I)) (x3 : Dm (.imm S_DecDec)) (x4 : Dm (.imm I)) : E_lFnExactBatTest g_a5 p_a5 g_ae p_ae g_a6 g_b5 p_b5 g_ct p_ct g_d2 p_d2 g_d7 p_d7 g_dc p_dc k (x0, x1, x2, x3, x4, ()) =
  (cl (p_a5 (x0, ((1048576 : Int), ()))) (g_a5 (x0, ((1048576 : Int), ()))) fun y0 => (bif (decide (y0.1 < (0 : Int))) then (some (true, ())) else (cl (p_ae (x0, ())) (g_ae (x0, ())) fun y1 => (cl (p_b5 (y1.1, (x1, (x2, ((g_a6 (x3, ())).1, (x4, ())))))) (g_b5 (y1.1, (x1, (x2, ((g_a6 (x3, ())).1, (x4, ())))))) fun y2 => (bif (p_ae (x0, ())) then (cl (p_ct (y1.1, (x1, (x2, ((g_a6 (x3, ())).1, (x4, ())))))) (g_ct (y1.1, (x1, (x2, ((g_a6 (x3, ())).1, (x4, ())))))) fun y3 => (cl (p_d2 (y3.1, (y2.1, ()))) (g_d2 (y3.1, (y2.1, ()))) fun y4 => (bif (bif y4.1 then false else true) then (some (false, ())) else (bif (bif (y3.2.1 == y2.2.1) then false else true) then (some (false, ())) else (bif (p_ae (x0, ())) then (cl (p_d2 (y1.1, (y1.1, ()))) (g_d2 (y1.1, (y1.1, ()))) fun y5 => (bif (bif y5.1 then false else true) then (some (false, ())) else (cl (p_d7 (y1.1, ((1 : Int), ()))) (g_d7 (y1.1, ((1 : Int), ()))) fun y6 => (bif (decide (y6.1 < (0 : Int))) then (some (false, ())) else (bif (p_d2 (y3.1, (y2.1, ()))) then (bif (bif y4.1 then false else true) then (some (false, ())) else (bif (bif (y3.2.1 == y2.2.1) then false else true) then (some (false, ())) else (cl (p_d7 (y3.1, ((1 : Int), ()))) (g_d7 (y3.1, ((1 : Int), ()))) fun y7 => (cl (p_dc ((y3.1.1, (y3.1.2.1, (y7.2.1.2.2.1, (y3.1.2.2.2.1, y7.2.1.2.2.2.2)))), ((1 : Int), ()))) (g_dc ((y3.1.1, (y3.1.2.1, (y7.2.1.2.2.1, (y3.1.2.2.2.1, y7.2.1.2.2.2.2)))), ((1 : Int), ()))) fun y8 => (bif (decide (y8.1 < (0 : Int))) then (some (false, ())) else (bif (bif (decide (y8.1 = y7.1)) then false else true) then (some (false, ())) else (bif (p_ae (x0, ())) then (bif (p_ct (y1.1, (x1, (x2, ((g_a6 (x3, ())).1, (x4, ())))))) then (bif (p_d2 (y3.1, (y2.1, ()))) then (bif (bif y4.1 then false else true) then (some (false, ())) else (bif (bif (y3.2.1 == y2.2.1) then false else true) then (some (false, ())) else (bif (p_dc ((y3.1.1, (y3.1.2.1, (y7.2.1.2.2.1, (y3.1.2.2.2.1, y7.2.1.2.2.2.2)))), ((1 : Int), ()))) then (bif (decide (y8.1 < (0 : Int))) then (some (false, ())) else (bif (bif (decide (y8.1 = y7.1)) then false else true) then (some (false, ())) else (some (true, ())))) else none))) else none) else none) else none))))))) else none))))) else none))))) else none))))) := by kernel_rfl
theorem S_lFnExactBatTest (h_a5 : C_a5 p_a5 g_a5) (h_ae : C_ae p_ae g_ae) (h_a6 : C_a6 (fun _ => true) g_a6) (h_b5 : C_b5 p_b5 g_b5) (h_ct : C_ct p_ct g_ct) (h_d2 : C_d2 p_d2 g_d2) (h_d7 : C_d7 p_d7 g_d7) (h_dc : C_dc p_dc g_dc) {pre : In_lFnExactBatTest -> Bool} {fn : In_lFnExactBatTest -> Out_lFnExactBatTest} (hev : ∀ x, pre x = true -> ∃ k, E_lFnExactBatTest g_a5 p_a5 g_ae p_ae g_a6 g_b5 p_b5 g_ct p_ct g_d2 p_d2 g_d7 p_d7 g_dc p_dc k x = some (fn x)) : C_lFnExactBatTest pre fn := sound tysOk mixed (fn := Tryz.f5) rfl rfl rfl (.cons h_a5 (.cons h_ae (.cons h_a6 (.cons h_b5 (.cons h_ct (.cons h_d2 (.cons h_d7 (.cons h_dc .nil)))))))) _ hev
end
end Go.Proofs.YtmbmoenjhfkgkaaGreat
