/- The functions of the seat, evaluated: equations, checked by the kernel. Made by a program. -/
import Derived.Test.YtijolcgmciclhaaFnExactStoNewVmC
import Derived.Test.YtijolcgmciclhaaProg
import Derived.KernelRfl
set_option linter.unusedVariables false
set_option maxRecDepth 100000
namespace Go.Proofs.Ytijolcgmciclhaa
open Go.Vm
abbrev Dm (m : Vm.Mode) : Type := m.inSh.den
abbrev Dn (S : Sh) : Type := S.den
def mkS (a : List (Nat × AV)) (b : List (Nat × Ob)) : St := .mk (updL (fun _ => .unk) a) (updL (fun _ => .none) b)
def pt0 : List Bool := [false, true, false, true]
def pt1 : List Bool := [false, true, false, true, true]
abbrev I : Sh := (.int .i64)
abbrev U8 : Sh := (.int .u8)
abbrev L_str : Sh := (.sl 9 .str)
abbrev L_bool : Sh := (.sl 4 .bool)
abbrev L_u8 : Sh := (.sl 5 U8)
abbrev L_int : Sh := (.sl 3 I)
abbrev S_runtime_errorAddressString : Sh := (.pair .str (.int .u64))
abbrev L_Lint : Sh := (.sl 70 L_int)
abbrev S_DecDec : Sh := (.pair I I)
abbrev S_sl20Rd : Sh := (.pair L_u8 I)
abbrev L_DecDec : Sh := (.sl 24 S_DecDec)
abbrev L_lDecDec : Sh := (.sl 120 S_DecDec)
abbrev S_DayDay : Sh := (.pair I S_DecDec)
abbrev L_BatSig : Sh := (.sl 133 S_DayDay)
abbrev L_lBatSig : Sh := (.sl 169 S_DayDay)
abbrev S_runtime_boundsError : Sh := (.pair I (.pair I (.pair .bool U8)))
abbrev S_SpcTest : Sh := (.pair I (.pair S_DecDec (.pair S_DecDec I)))
abbrev L_SpcTest : Sh := (.sl 26 S_SpcTest)
abbrev L_lSpcTest : Sh := (.sl 122 S_SpcTest)
abbrev S_SpcSpec : Sh := (.pair L_SpcTest I)
abbrev L_SpcSpec : Sh := (.sl 202 S_SpcSpec)
abbrev S_CerCer : Sh := (.pair I (.pair L_SpcTest (.pair L_DecDec S_DecDec)))
abbrev S_TstTest : Sh := (.pair S_SpcTest (.pair I (.pair S_DecDec (.pair I L_DecDec))))
abbrev S_lTstTest : Sh := (.pair S_SpcTest (.pair I (.pair S_DecDec (.pair I L_lDecDec))))
abbrev L_TstTest : Sh := (.sl 29 S_TstTest)
abbrev L_lTstTest : Sh := (.sl 166 S_lTstTest)
abbrev S_ReqReq : Sh := (.pair I (.pair I (.pair I (.pair I (.pair I (.pair S_DecDec L_SpcTest))))))
abbrev S_AudLine : Sh := (.pair S_ReqReq I)
abbrev L_AudLine : Sh := (.sl 178 S_AudLine)
abbrev S_SesSes : Sh := (.pair .bool (.pair S_ReqReq S_DecDec))
abbrev L_SesSes : Sh := (.sl 181 S_SesSes)
abbrev S_BatBatch : Sh := (.pair I (.pair I (.pair L_TstTest (.pair I (.pair L_BatSig L_bool)))))
abbrev S_lBatBatch : Sh := (.pair I (.pair I (.pair L_lTstTest (.pair I (.pair L_lBatSig L_bool)))))
abbrev L_BatBatch : Sh := (.sl 53 S_BatBatch)
abbrev S_HouHouse : Sh := (.pair L_int (.pair L_SpcSpec L_BatBatch))
abbrev S_StoStore : Sh := (.pair S_HouHouse (.pair L_int (.pair L_AudLine L_SesSes)))
abbrev S_lDecDec : Sh := S_DecDec
abbrev S_BatSig : Sh := S_DayDay
abbrev S_lBatSig : Sh := S_DayDay
abbrev S_lSpcTest : Sh := S_SpcTest
def tys : List (Nat × Sh × Nat) := [(2, I, 0), (3, I, 0), (4, .bool, 0), (5, U8, 0), (6, U8, 0), (7, S_runtime_boundsError, 4), (8, S_runtime_boundsError, 4), (9, .str, 0), (10, .str, 0), (11, .str, 0), (12, (.int .u64), 0), (13, S_runtime_errorAddressString, 2), (14, S_runtime_errorAddressString, 2), (21, (.int .i32), 0), (22, L_u8, 0), (23, S_DecDec, 2), (24, S_DecDec, 2), (25, S_SpcTest, 4), (26, S_SpcTest, 4), (27, L_DecDec, 0), (28, S_TstTest, 5), (29, S_TstTest, 5), (47, L_lSpcTest, 0), (49, L_TstTest, 0), (50, L_BatSig, 0), (51, L_bool, 0), (52, S_BatBatch, 6), (53, S_BatBatch, 6), (55, L_SpcTest, 0), (62, L_lTstTest, 0), (63, L_lBatSig, 0), (64, S_lBatBatch, 6), (65, S_lBatBatch, 6), (70, L_int, 0), (71, L_SpcSpec, 0), (72, L_BatBatch, 0), (73, S_HouHouse, 3), (74, S_HouHouse, 3), (75, L_AudLine, 0), (76, L_SesSes, 0), (77, S_StoStore, 4), (78, S_StoStore, 4), (86, S_ReqReq, 7), (87, S_ReqReq, 7), (90, S_CerCer, 5), (91, S_CerCer, 5), (111, S_DayDay, 3), (112, S_DayDay, 3), (120, S_DecDec, 2), (121, S_SpcTest, 4), (122, S_SpcTest, 4), (132, S_DayDay, 3), (133, S_DayDay, 3), (153, S_sl20Rd, 2), (154, S_sl20Rd, 2), (164, L_lDecDec, 0), (165, S_lTstTest, 5), (166, S_lTstTest, 5), (169, S_DayDay, 3), (177, S_AudLine, 2), (178, S_AudLine, 2), (180, S_SesSes, 4), (181, S_SesSes, 4), (201, S_SpcSpec, 2), (202, S_SpcSpec, 2), (204, L_Lint, 0), (227, L_str, 0), (237, (.int .u32), 0), (238, U8, 0), (239, U8, 0), (242, (.int .i32), 0), (243, (.int .i32), 0)]
theorem tysOk : tyChk Try.prog (ctx tys 0 (fun _ => []) (fun _ => ⟨[], [], []⟩) fun _ => []) tys = true := by kernel_rfl
theorem mixed : Try.prog.follows .mixedOrders = true := by kernel_rfl
/-! a0: ltoIntS -/
abbrev M_a0 : List Vm.Mode := [.imm L_int]
abbrev R_a0 : List (RK × Sh) := [(.own, L_int)]
abbrev In_a0 : Type := (insSh M_a0).den
abbrev Out_a0 : Type := (outSh R_a0 M_a0).den
abbrev C_a0 (pre : In_a0 -> Bool) (fn : In_a0 -> Out_a0) : Prop := Sound Try.prog 47 ⟨M_a0, R_a0, pre, fn⟩
abbrev X_a0 : Ctx := ctx tys 22 (conOf []) (keepOf [(pt1, (⟨[(0, .asis), (3, .own), (4, .asis)], [], []⟩ : Keep))]) (fun _ => [])
noncomputable abbrev E_a0 (k : Nat) (x : In_a0) : Option Out_a0 := evFn X_a0 Try.f47 R_a0 M_a0 k x
def h0_a0 (x0 : Dm (.imm L_int)) (h0 : Dn I) (h1 : (List (Dn I))) : St := mkS [(0, (AV.val L_int x0)), (3, (AV.sref 2503 none [])), (4, (AV.val I h0))] [(2503, (Ob.arr 3 I h1))]
noncomputable def r_a0 (x : In_a0) (k : Nat) (p : List Bool) (s : St) : Option Out_a0 := rounds X_a0 Try.f47 R_a0 M_a0 x k p s
theorem ev_a0 (k : Nat) (x0 : Dm (.imm L_int)) : E_a0 k (x0, ()) =
  (bif (bif (bif (decide ((0 : Int) <= (List.length x0 : Int))) then (decide ((List.length x0 : Int) <= (BIG : Int))) else false) then (decide ((List.length x0 : Int) = (List.length x0 : Int))) else false) then (r_a0  (x0, ()) k pt1 (h0_a0 x0 (0 : Int) (List.replicate (Int.toNat (List.length x0 : Int)) (0 : Int)))) else none) := by kernel_rfl
theorem rd0_a0 (k : Nat) (x0 : Dm (.imm L_int)) (h0 : Dn I) (h1 : (List (Dn I))) : r_a0  (x0, ()) (k + 1) pt1 (h0_a0 x0 h0 h1) =
  (bif (decide (h0 < (List.length x0 : Int))) then (bif (bif (decide ((0 : Int) <= h0)) then (decide (h0 < (List.length x0 : Int))) else false) then (bif (bif (decide ((0 : Int) <= h0)) then (decide (h0 < (List.length h1 : Int))) else false) then (r_a0  (x0, ()) k pt1 (h0_a0 x0 (w64 (h0 + (1 : Int))) (List.set h1 (Int.toNat h0) (rdL (e := I) x0 h0)))) else none) else none) else (some (h1, ()))) := by kernel_rfl
theorem S_a0  {pre : In_a0 -> Bool} {fn : In_a0 -> Out_a0} (hev : ∀ x, pre x = true -> ∃ k, E_a0 k x = some (fn x)) : C_a0 pre fn := sound tysOk mixed (fn := Try.f47) rfl rfl rfl ConsOk.nil _ hev
/-! a1: sl1In -/
abbrev M_a1 : List Vm.Mode := [.imm I, .imm I, .imm I]
abbrev R_a1 : List (RK × Sh) := [(.imm, .bool)]
abbrev In_a1 : Type := (insSh M_a1).den
abbrev Out_a1 : Type := (outSh R_a1 M_a1).den
abbrev C_a1 (pre : In_a1 -> Bool) (fn : In_a1 -> Out_a1) : Prop := Sound Try.prog 75 ⟨M_a1, R_a1, pre, fn⟩
abbrev X_a1 : Ctx := ctx tys 15 (conOf []) (keepOf []) (fun _ => [])
noncomputable abbrev E_a1 (k : Nat) (x : In_a1) : Option Out_a1 := evFn X_a1 Try.f75 R_a1 M_a1 k x
theorem ev_a1 (k : Nat) (x0 : Dm (.imm I)) (x1 : Dm (.imm I)) (x2 : Dm (.imm I)) : E_a1 k (x0, x1, x2, ()) =
  (bif (decide (x1 <= x0)) then (some ((decide (x0 <= x2)), ())) else (some (false, ()))) := by kernel_rfl
theorem S_a1  {pre : In_a1 -> Bool} {fn : In_a1 -> Out_a1} (hev : ∀ x, pre x = true -> ∃ k, E_a1 k x = some (fn x)) : C_a1 pre fn := sound tysOk mixed (fn := Try.f75) rfl rfl rfl ConsOk.nil _ hev
/-! a2: sHouNew -/
abbrev M_a2 : List Vm.Mode := [.imm L_int]
abbrev R_a2 : List (RK × Sh) := [(.own, S_HouHouse)]
abbrev In_a2 : Type := (insSh M_a2).den
abbrev Out_a2 : Type := (outSh R_a2 M_a2).den
abbrev C_a2 (pre : In_a2 -> Bool) (fn : In_a2 -> Out_a2) : Prop := Sound Try.prog 115 ⟨M_a2, R_a2, pre, fn⟩
section
variable (g_a1 : In_a1 -> Out_a1)
abbrev X_a2 : Ctx := ctx tys 26 (conOf [(75, ⟨M_a1, R_a1, fun _ => true, g_a1⟩)]) (keepOf [(pt1, (⟨[(0, .asis), (2, .asis), (3, .asis)], [(2, (.pair .own (.pair .own .own)))], []⟩ : Keep))]) (fun _ => [])
noncomputable abbrev E_a2 (k : Nat) (x : In_a2) : Option Out_a2 := evFn (X_a2 g_a1) Try.f115 R_a2 M_a2 k x
def h0_a2 (x0 : Dm (.imm L_int)) (h0 : Dn I) (h1 : (List (Dn I))) (h2 : (List (Dn S_SpcSpec))) (h3 : (List (Dn S_BatBatch))) : St := mkS [(0, (AV.val L_int x0)), (2, (AV.ptr 2 none [])), (3, (AV.val I h0))] [(2, (Ob.box S_HouHouse (AV.pair (AV.sref 2502 none []) (AV.pair (AV.sref 12502 none []) (AV.sref 22502 none []))))), (2502, (Ob.arr 3 I h1)), (12502, (Ob.arr 202 S_SpcSpec h2)), (22502, (Ob.arr 53 S_BatBatch h3))]
noncomputable def r_a2 (x : In_a2) (k : Nat) (p : List Bool) (s : St) : Option Out_a2 := rounds (X_a2 g_a1) Try.f115 R_a2 M_a2 x k p s
variable {g_a1}
theorem ev_a2 (k : Nat) (x0 : Dm (.imm L_int)) : E_a2 g_a1 k (x0, ()) =
  (bif (bif (g_a1 ((List.length x0 : Int), ((1 : Int), ((5 : Int), ())))).1 then false else true) then (some (([], ([], [])), ())) else (r_a2 g_a1 (x0, ()) k pt1 (h0_a2 x0 (0 : Int) [] [] []))) := by kernel_rfl
theorem rd0_a2 (k : Nat) (x0 : Dm (.imm L_int)) (h0 : Dn I) (h1 : (List (Dn I))) (h2 : (List (Dn S_SpcSpec))) (h3 : (List (Dn S_BatBatch))) : r_a2 g_a1 (x0, ()) (k + 1) pt1 (h0_a2 x0 h0 h1 h2 h3) =
  (bif (decide (h0 < (List.length x0 : Int))) then (bif (bif (decide ((0 : Int) <= h0)) then (decide (h0 < (List.length x0 : Int))) else false) then (bif (bif (g_a1 ((rdL (e := I) x0 h0), ((1 : Int), ((4 : Int), ())))).1 then false else true) then (some (([], ([], [])), ())) else (r_a2 g_a1 (x0, ()) k pt1 (h0_a2 x0 (w64 (h0 + (1 : Int))) h1 h2 h3))) else none) else (bif (fitL [] x0) then (some (((List.append [] x0), ([], [])), ())) else none)) := by kernel_rfl
theorem S_a2 (h_a1 : C_a1 (fun _ => true) g_a1) {pre : In_a2 -> Bool} {fn : In_a2 -> Out_a2} (hev : ∀ x, pre x = true -> ∃ k, E_a2 g_a1 k x = some (fn x)) : C_a2 pre fn := sound tysOk mixed (fn := Try.f115) rfl rfl rfl (.cons h_a1 .nil) _ hev
end
/-! a3: sStoNew -/
abbrev M_a3 : List Vm.Mode := [.imm L_int]
abbrev R_a3 : List (RK × Sh) := [(.own, S_StoStore)]
abbrev In_a3 : Type := (insSh M_a3).den
abbrev Out_a3 : Type := (outSh R_a3 M_a3).den
abbrev C_a3 (pre : In_a3 -> Bool) (fn : In_a3 -> Out_a3) : Prop := Sound Try.prog 46 ⟨M_a3, R_a3, pre, fn⟩
section
variable (g_a2 : In_a2 -> Out_a2) (p_a2 : In_a2 -> Bool)
abbrev X_a3 : Ctx := ctx tys 15 (conOf [(115, ⟨M_a2, R_a2, p_a2, g_a2⟩)]) (keepOf []) (fun _ => [])
noncomputable abbrev E_a3 (k : Nat) (x : In_a3) : Option Out_a3 := evFn (X_a3 g_a2 p_a2) Try.f46 R_a3 M_a3 k x
variable {g_a2 p_a2}
theorem ev_a3 (k : Nat) (x0 : Dm (.imm L_int)) : E_a3 g_a2 p_a2 k (x0, ()) =
  (cl (p_a2 (x0, ())) (g_a2 (x0, ())) fun y0 => (bif (decide ((List.length y0.1.1 : Int) = (0 : Int))) then (some ((([], ([], [])), ([], ([], []))), ())) else (bif (bif (bif (decide ((0 : Int) <= (5 : Int))) then (decide ((5 : Int) <= (BIG : Int))) else false) then (decide ((5 : Int) = (5 : Int))) else false) then (bif (bif (bif (decide ((0 : Int) <= (4 : Int))) then (decide ((4 : Int) <= (BIG : Int))) else false) then (decide ((4 : Int) = (4 : Int))) else false) then (some ((y0.1, ((List.replicate (Int.toNat (5 : Int)) (0 : Int)), ([], (List.replicate (Int.toNat (4 : Int)) (false, (((0 : Int), ((0 : Int), ((0 : Int), ((0 : Int), ((0 : Int), (((0 : Int), (0 : Int)), [])))))), ((0 : Int), (0 : Int)))))))), ())) else none) else none))) := by kernel_rfl
theorem S_a3 (h_a2 : C_a2 p_a2 g_a2) {pre : In_a3 -> Bool} {fn : In_a3 -> Out_a3} (hev : ∀ x, pre x = true -> ∃ k, E_a3 g_a2 p_a2 k x = some (fn x)) : C_a3 pre fn := sound tysOk mixed (fn := Try.f46) rfl rfl rfl (.cons h_a2 .nil) _ hev
end
/-! iin -/
abbrev M_iin : List Vm.Mode := [.imm I, .imm I, .imm I]
abbrev R_iin : List (RK × Sh) := [(.imm, .bool)]
abbrev In_iin : Type := (insSh M_iin).den
abbrev Out_iin : Type := (outSh R_iin M_iin).den
abbrev C_iin (pre : In_iin -> Bool) (fn : In_iin -> Out_iin) : Prop := Sound Try.prog 84 ⟨M_iin, R_iin, pre, fn⟩
abbrev X_iin : Ctx := ctx tys 15 (conOf []) (keepOf []) (fun _ => [])
noncomputable abbrev E_iin (k : Nat) (x : In_iin) : Option Out_iin := evFn X_iin Try.f84 R_iin M_iin k x
theorem ev_iin (k : Nat) (x0 : Dm (.imm I)) (x1 : Dm (.imm I)) (x2 : Dm (.imm I)) : E_iin k (x0, x1, x2, ()) =
  (bif (decide (x1 <= x0)) then (some ((decide (x0 <= x2)), ())) else (some (false, ()))) := by kernel_rfl
theorem S_iin  {pre : In_iin -> Bool} {fn : In_iin -> Out_iin} (hev : ∀ x, pre x = true -> ∃ k, E_iin k x = some (fn x)) : C_iin pre fn := sound tysOk mixed (fn := Try.f84) rfl rfl rfl ConsOk.nil _ hev
/-! a4: irolesOk_c1 -/
abbrev M_a4 : List Vm.Mode := [.imm I]
abbrev R_a4 : List (RK × Sh) := [(.imm, .bool)]
abbrev In_a4 : Type := (insSh M_a4).den
abbrev Out_a4 : Type := (outSh R_a4 M_a4).den
abbrev C_a4 (pre : In_a4 -> Bool) (fn : In_a4 -> Out_a4) : Prop := Sound Try.prog 168 ⟨M_a4, R_a4, pre, fn⟩
section
variable (g_iin : In_iin -> Out_iin)
abbrev X_a4 : Ctx := ctx tys 6 (conOf [(84, ⟨M_iin, R_iin, fun _ => true, g_iin⟩)]) (keepOf []) (fun _ => [])
noncomputable abbrev E_a4 (k : Nat) (x : In_a4) : Option Out_a4 := evFn (X_a4 g_iin) Try.f168 R_a4 M_a4 k x
variable {g_iin}
theorem ev_a4 (k : Nat) (x0 : Dm (.imm I)) : E_a4 g_iin k (x0, ()) =
  (some ((bif (g_iin (x0, ((1 : Int), ((4 : Int), ())))).1 then false else true), ())) := by kernel_rfl
theorem S_a4 (h_iin : C_iin (fun _ => true) g_iin) {pre : In_a4 -> Bool} {fn : In_a4 -> Out_a4} (hev : ∀ x, pre x = true -> ∃ k, E_a4 g_iin k x = some (fn x)) : C_a4 pre fn := sound tysOk mixed (fn := Try.f168) rfl rfl rfl (.cons h_iin .nil) _ hev
end
/-! a5: gIndexFunc_int__irolesOk_c1 -/
abbrev M_a5 : List Vm.Mode := [.imm L_int, .clo 168 []]
abbrev R_a5 : List (RK × Sh) := [(.imm, I)]
abbrev In_a5 : Type := (insSh M_a5).den
abbrev Out_a5 : Type := (outSh R_a5 M_a5).den
abbrev C_a5 (pre : In_a5 -> Bool) (fn : In_a5 -> Out_a5) : Prop := Sound Try.prog 197 ⟨M_a5, R_a5, pre, fn⟩
section
variable (g_a4 : In_a4 -> Out_a4)
abbrev X_a5 : Ctx := ctx tys 19 (conOf [(168, ⟨M_a4, R_a4, fun _ => true, g_a4⟩)]) (keepOf [(pt0, (⟨[(0, .asis), (1, .asis), (7, .asis), (8, .asis)], [], []⟩ : Keep))]) (fun _ => [])
noncomputable abbrev E_a5 (k : Nat) (x : In_a5) : Option Out_a5 := evFn (X_a5 g_a4) Try.f197 R_a5 M_a5 k x
def h0_a5 (x0 : Dm (.imm L_int)) (x1 : Dm (.clo 168 [])) (h0 : Dn I) (h1 : Dn I) : St := mkS [(0, (AV.val L_int x0)), (1, (AV.fn 168 [])), (7, (AV.val I h0)), (8, (AV.val I h1))] []
noncomputable def r_a5 (x : In_a5) (k : Nat) (p : List Bool) (s : St) : Option Out_a5 := rounds (X_a5 g_a4) Try.f197 R_a5 M_a5 x k p s
variable {g_a4}
theorem ev_a5 (k : Nat) (x0 : Dm (.imm L_int)) (x1 : Dm (.clo 168 [])) : E_a5 g_a4 k (x0, x1, ()) =
  (r_a5 g_a4 (x0, x1, ()) k pt0 (h0_a5 x0 x1 (List.length x0 : Int) (0 : Int))) := by kernel_rfl
theorem rd0_a5 (k : Nat) (x0 : Dm (.imm L_int)) (x1 : Dm (.clo 168 [])) (h0 : Dn I) (h1 : Dn I) : r_a5 g_a4 (x0, x1, ()) (k + 1) pt0 (h0_a5 x0 x1 h0 h1) =
  (bif (decide (h1 < h0)) then (bif (bif (decide ((0 : Int) <= h1)) then (decide (h1 < (List.length x0 : Int))) else false) then (bif (g_a4 ((rdL (e := I) x0 h1), ())).1 then (some (h1, ())) else (r_a5 g_a4 (x0, x1, ()) k pt0 (h0_a5 x0 x1 h0 (w64 (h1 + (1 : Int)))))) else none) else (some ((-1 : Int), ()))) := by kernel_rfl
theorem S_a5 (h_a4 : C_a4 (fun _ => true) g_a4) {pre : In_a5 -> Bool} {fn : In_a5 -> Out_a5} (hev : ∀ x, pre x = true -> ∃ k, E_a5 g_a4 k x = some (fn x)) : C_a5 pre fn := sound tysOk mixed (fn := Try.f197) rfl rfl rfl (.cons h_a4 .nil) _ hev
end
/-! a6: gContainsFunc_int__irolesOk_c1 -/
abbrev M_a6 : List Vm.Mode := [.imm L_int, .clo 168 []]
abbrev R_a6 : List (RK × Sh) := [(.imm, .bool)]
abbrev In_a6 : Type := (insSh M_a6).den
abbrev Out_a6 : Type := (outSh R_a6 M_a6).den
abbrev C_a6 (pre : In_a6 -> Bool) (fn : In_a6 -> Out_a6) : Prop := Sound Try.prog 169 ⟨M_a6, R_a6, pre, fn⟩
section
variable (g_a5 : In_a5 -> Out_a5) (p_a5 : In_a5 -> Bool)
abbrev X_a6 : Ctx := ctx tys 9 (conOf [(197, ⟨M_a5, R_a5, p_a5, g_a5⟩)]) (keepOf []) (fun _ => [])
noncomputable abbrev E_a6 (k : Nat) (x : In_a6) : Option Out_a6 := evFn (X_a6 g_a5 p_a5) Try.f169 R_a6 M_a6 k x
variable {g_a5 p_a5}
theorem ev_a6 (k : Nat) (x0 : Dm (.imm L_int)) (x1 : Dm (.clo 168 [])) : E_a6 g_a5 p_a5 k (x0, x1, ()) =
  (cl (p_a5 (x0, ((), ()))) (g_a5 (x0, ((), ()))) fun y0 => (some ((decide ((0 : Int) <= y0.1)), ()))) := by kernel_rfl
theorem S_a6 (h_a5 : C_a5 p_a5 g_a5) {pre : In_a6 -> Bool} {fn : In_a6 -> Out_a6} (hev : ∀ x, pre x = true -> ∃ k, E_a6 g_a5 p_a5 k x = some (fn x)) : C_a6 pre fn := sound tysOk mixed (fn := Try.f169) rfl rfl rfl (.cons h_a5 .nil) _ hev
end
/-! a7: irolesOk -/
abbrev M_a7 : List Vm.Mode := [.imm L_int]
abbrev R_a7 : List (RK × Sh) := [(.imm, .bool)]
abbrev In_a7 : Type := (insSh M_a7).den
abbrev Out_a7 : Type := (outSh R_a7 M_a7).den
abbrev C_a7 (pre : In_a7 -> Bool) (fn : In_a7 -> Out_a7) : Prop := Sound Try.prog 116 ⟨M_a7, R_a7, pre, fn⟩
section
variable (g_iin : In_iin -> Out_iin) (g_a6 : In_a6 -> Out_a6) (p_a6 : In_a6 -> Bool)
abbrev X_a7 : Ctx := ctx tys 13 (conOf [(84, ⟨M_iin, R_iin, fun _ => true, g_iin⟩), (169, ⟨M_a6, R_a6, p_a6, g_a6⟩)]) (keepOf []) (fun _ => [])
noncomputable abbrev E_a7 (k : Nat) (x : In_a7) : Option Out_a7 := evFn (X_a7 g_iin g_a6 p_a6) Try.f116 R_a7 M_a7 k x
variable {g_iin g_a6 p_a6}
theorem ev_a7 (k : Nat) (x0 : Dm (.imm L_int)) : E_a7 g_iin g_a6 p_a6 k (x0, ()) =
  (bif (g_iin ((List.length x0 : Int), ((1 : Int), ((5 : Int), ())))).1 then (cl (p_a6 (x0, ((), ()))) (g_a6 (x0, ((), ()))) fun y0 => (some ((bif y0.1 then false else true), ()))) else (some (false, ()))) := by kernel_rfl
theorem S_a7 (h_iin : C_iin (fun _ => true) g_iin) (h_a6 : C_a6 p_a6 g_a6) {pre : In_a7 -> Bool} {fn : In_a7 -> Out_a7} (hev : ∀ x, pre x = true -> ∃ k, E_a7 g_iin g_a6 p_a6 k x = some (fn x)) : C_a7 pre fn := sound tysOk mixed (fn := Try.f116) rfl rfl rfl (.cons h_iin (.cons h_a6 .nil)) _ hev
end
/-! a8: gClone_int -/
abbrev M_a8 : List Vm.Mode := [.imm L_int]
abbrev R_a8 : List (RK × Sh) := [(.own, L_int)]
abbrev In_a8 : Type := (insSh M_a8).den
abbrev Out_a8 : Type := (outSh R_a8 M_a8).den
abbrev C_a8 (pre : In_a8 -> Bool) (fn : In_a8 -> Out_a8) : Prop := Sound Try.prog 170 ⟨M_a8, R_a8, pre, fn⟩
abbrev X_a8 : Ctx := ctx tys 8 (conOf []) (keepOf []) (fun _ => [])
noncomputable abbrev E_a8 (k : Nat) (x : In_a8) : Option Out_a8 := evFn X_a8 Try.f170 R_a8 M_a8 k x
theorem ev_a8 (k : Nat) (x0 : Dm (.imm L_int)) : E_a8 k (x0, ()) =
  (bif (List.isEmpty x0) then (agree (some ([], ())) (bif (fitL [] x0) then (some ((List.append [] x0), ())) else none)) else (bif (fitL [] x0) then (some ((List.append [] x0), ())) else none)) := by kernel_rfl
theorem S_a8  {pre : In_a8 -> Bool} {fn : In_a8 -> Out_a8} (hev : ∀ x, pre x = true -> ∃ k, E_a8 k x = some (fn x)) : C_a8 pre fn := sound tysOk mixed (fn := Try.f170) rfl rfl rfl ConsOk.nil _ hev
/-! a9: iHouNew -/
abbrev M_a9 : List Vm.Mode := [.imm L_int]
abbrev R_a9 : List (RK × Sh) := [(.own, S_HouHouse)]
abbrev In_a9 : Type := (insSh M_a9).den
abbrev Out_a9 : Type := (outSh R_a9 M_a9).den
abbrev C_a9 (pre : In_a9 -> Bool) (fn : In_a9 -> Out_a9) : Prop := Sound Try.prog 117 ⟨M_a9, R_a9, pre, fn⟩
section
variable (g_a7 : In_a7 -> Out_a7) (p_a7 : In_a7 -> Bool) (g_a8 : In_a8 -> Out_a8) (p_a8 : In_a8 -> Bool)
abbrev X_a9 : Ctx := ctx tys 10 (conOf [(116, ⟨M_a7, R_a7, p_a7, g_a7⟩), (170, ⟨M_a8, R_a8, p_a8, g_a8⟩)]) (keepOf []) (fun _ => [])
noncomputable abbrev E_a9 (k : Nat) (x : In_a9) : Option Out_a9 := evFn (X_a9 g_a7 p_a7 g_a8 p_a8) Try.f117 R_a9 M_a9 k x
variable {g_a7 p_a7 g_a8 p_a8}
theorem ev_a9 (k : Nat) (x0 : Dm (.imm L_int)) : E_a9 g_a7 p_a7 g_a8 p_a8 k (x0, ()) =
  (cl (p_a7 (x0, ())) (g_a7 (x0, ())) fun y0 => (bif (bif y0.1 then false else true) then (some (([], ([], [])), ())) else (cl (p_a8 (x0, ())) (g_a8 (x0, ())) fun y1 => (some ((y1.1, ([], [])), ()))))) := by kernel_rfl
theorem S_a9 (h_a7 : C_a7 p_a7 g_a7) (h_a8 : C_a8 p_a8 g_a8) {pre : In_a9 -> Bool} {fn : In_a9 -> Out_a9} (hev : ∀ x, pre x = true -> ∃ k, E_a9 g_a7 p_a7 g_a8 p_a8 k x = some (fn x)) : C_a9 pre fn := sound tysOk mixed (fn := Try.f117) rfl rfl rfl (.cons h_a7 (.cons h_a8 .nil)) _ hev
end
/-! aa: iStoNew -/
abbrev M_aa : List Vm.Mode := [.imm L_int]
abbrev R_aa : List (RK × Sh) := [(.own, S_StoStore)]
abbrev In_aa : Type := (insSh M_aa).den
abbrev Out_aa : Type := (outSh R_aa M_aa).den
abbrev C_aa (pre : In_aa -> Bool) (fn : In_aa -> Out_aa) : Prop := Sound Try.prog 48 ⟨M_aa, R_aa, pre, fn⟩
section
variable (g_a7 : In_a7 -> Out_a7) (p_a7 : In_a7 -> Bool) (g_a9 : In_a9 -> Out_a9) (p_a9 : In_a9 -> Bool)
abbrev X_aa : Ctx := ctx tys 12 (conOf [(116, ⟨M_a7, R_a7, p_a7, g_a7⟩), (117, ⟨M_a9, R_a9, p_a9, g_a9⟩)]) (keepOf []) (fun _ => [])
noncomputable abbrev E_aa (k : Nat) (x : In_aa) : Option Out_aa := evFn (X_aa g_a7 p_a7 g_a9 p_a9) Try.f48 R_aa M_aa k x
variable {g_a7 p_a7 g_a9 p_a9}
theorem ev_aa (k : Nat) (x0 : Dm (.imm L_int)) : E_aa g_a7 p_a7 g_a9 p_a9 k (x0, ()) =
  (cl (p_a7 (x0, ())) (g_a7 (x0, ())) fun y0 => (bif (bif y0.1 then false else true) then (some ((([], ([], [])), ([], ([], []))), ())) else (cl (p_a9 (x0, ())) (g_a9 (x0, ())) fun y1 => (bif (bif (bif (decide ((0 : Int) <= (5 : Int))) then (decide ((5 : Int) <= (BIG : Int))) else false) then (decide ((5 : Int) = (5 : Int))) else false) then (bif (bif (bif (decide ((0 : Int) <= (4 : Int))) then (decide ((4 : Int) <= (BIG : Int))) else false) then (decide ((4 : Int) = (4 : Int))) else false) then (some ((y1.1, ((List.replicate (Int.toNat (5 : Int)) (0 : Int)), ([], (List.replicate (Int.toNat (4 : Int)) (false, (((0 : Int), ((0 : Int), ((0 : Int), ((0 : Int), ((0 : Int), (((0 : Int), (0 : Int)), [])))))), ((0 : Int), (0 : Int)))))))), ())) else none) else none)))) := by kernel_rfl
theorem S_aa (h_a7 : C_a7 p_a7 g_a7) (h_a9 : C_a9 p_a9 g_a9) {pre : In_aa -> Bool} {fn : In_aa -> Out_aa} (hev : ∀ x, pre x = true -> ∃ k, E_aa g_a7 p_a7 g_a9 p_a9 k x = some (fn x)) : C_aa pre fn := sound tysOk mixed (fn := Try.f48) rfl rfl rfl (.cons h_a7 (.cons h_a9 .nil)) _ hev
end
/-! ab: leqIntS -/
abbrev M_ab : List Vm.Mode := [.imm L_int, .imm L_int]
abbrev R_ab : List (RK × Sh) := [(.imm, .bool)]
abbrev In_ab : Type := (insSh M_ab).den
abbrev Out_ab : Type := (outSh R_ab M_ab).den
abbrev C_ab (pre : In_ab -> Bool) (fn : In_ab -> Out_ab) : Prop := Sound Try.prog 50 ⟨M_ab, R_ab, pre, fn⟩
abbrev X_ab : Ctx := ctx tys 26 (conOf []) (keepOf [(pt1, (⟨[(0, .asis), (1, .asis), (5, .asis)], [], []⟩ : Keep))]) (fun _ => [])
noncomputable abbrev E_ab (k : Nat) (x : In_ab) : Option Out_ab := evFn X_ab Try.f50 R_ab M_ab k x
def h0_ab (x0 : Dm (.imm L_int)) (x1 : Dm (.imm L_int)) (h0 : Dn I) : St := mkS [(0, (AV.val L_int x0)), (1, (AV.val L_int x1)), (5, (AV.val I h0))] []
noncomputable def r_ab (x : In_ab) (k : Nat) (p : List Bool) (s : St) : Option Out_ab := rounds X_ab Try.f50 R_ab M_ab x k p s
theorem ev_ab (k : Nat) (x0 : Dm (.imm L_int)) (x1 : Dm (.imm L_int)) : E_ab k (x0, x1, ()) =
  (bif (bif (decide ((List.length x0 : Int) = (List.length x1 : Int))) then false else true) then (some (false, ())) else (r_ab  (x0, x1, ()) k pt1 (h0_ab x0 x1 (0 : Int)))) := by kernel_rfl
theorem rd0_ab (k : Nat) (x0 : Dm (.imm L_int)) (x1 : Dm (.imm L_int)) (h0 : Dn I) : r_ab  (x0, x1, ()) (k + 1) pt1 (h0_ab x0 x1 h0) =
  (bif (decide (h0 < (List.length x0 : Int))) then (bif (bif (decide ((0 : Int) <= h0)) then (decide (h0 < (List.length x0 : Int))) else false) then (bif (bif (decide ((0 : Int) <= h0)) then (decide (h0 < (List.length x1 : Int))) else false) then (bif (bif (decide ((rdL (e := I) x0 h0) = (rdL (e := I) x1 h0))) then false else true) then (some (false, ())) else (r_ab  (x0, x1, ()) k pt1 (h0_ab x0 x1 (w64 (h0 + (1 : Int)))))) else none) else none) else (some (true, ()))) := by kernel_rfl
theorem S_ab  {pre : In_ab -> Bool} {fn : In_ab -> Out_ab} (hev : ∀ x, pre x = true -> ∃ k, E_ab k x = some (fn x)) : C_ab pre fn := sound tysOk mixed (fn := Try.f50) rfl rfl rfl ConsOk.nil _ hev
/-! ac: leqDecDec -/
abbrev M_ac : List Vm.Mode := [.imm S_DecDec, .imm S_DecDec]
abbrev R_ac : List (RK × Sh) := [(.imm, .bool)]
abbrev In_ac : Type := (insSh M_ac).den
abbrev Out_ac : Type := (outSh R_ac M_ac).den
abbrev C_ac (pre : In_ac -> Bool) (fn : In_ac -> Out_ac) : Prop := Sound Try.prog 156 ⟨M_ac, R_ac, pre, fn⟩
abbrev X_ac : Ctx := ctx tys 15 (conOf []) (keepOf []) (fun _ => [])
noncomputable abbrev E_ac (k : Nat) (x : In_ac) : Option Out_ac := evFn X_ac Try.f156 R_ac M_ac k x
theorem ev_ac (k : Nat) (x0 : Dm (.imm S_DecDec)) (x1 : Dm (.imm S_DecDec)) : E_ac k (x0, x1, ()) =
  (bif (bif (decide (x0.1 = x1.1)) then false else true) then (some (false, ())) else (bif (bif (decide (x0.2 = x1.2)) then false else true) then (some (false, ())) else (some (true, ())))) := by kernel_rfl
theorem S_ac  {pre : In_ac -> Bool} {fn : In_ac -> Out_ac} (hev : ∀ x, pre x = true -> ∃ k, E_ac k x = some (fn x)) : C_ac pre fn := sound tysOk mixed (fn := Try.f156) rfl rfl rfl ConsOk.nil _ hev
/-! ad: leqSpcTest -/
abbrev M_ad : List Vm.Mode := [.imm S_SpcTest, .imm S_SpcTest]
abbrev R_ad : List (RK × Sh) := [(.imm, .bool)]
abbrev In_ad : Type := (insSh M_ad).den
abbrev Out_ad : Type := (outSh R_ad M_ad).den
abbrev C_ad (pre : In_ad -> Bool) (fn : In_ad -> Out_ad) : Prop := Sound Try.prog 97 ⟨M_ad, R_ad, pre, fn⟩
section
variable (g_ac : In_ac -> Out_ac)
abbrev X_ad : Ctx := ctx tys 27 (conOf [(156, ⟨M_ac, R_ac, fun _ => true, g_ac⟩)]) (keepOf []) (fun _ => [])
noncomputable abbrev E_ad (k : Nat) (x : In_ad) : Option Out_ad := evFn (X_ad g_ac) Try.f97 R_ad M_ad k x
variable {g_ac}
theorem ev_ad (k : Nat) (x0 : Dm (.imm S_SpcTest)) (x1 : Dm (.imm S_SpcTest)) : E_ad g_ac k (x0, x1, ()) =
  (bif (bif (decide (x0.1 = x1.1)) then false else true) then (some (false, ())) else (bif (bif (g_ac (x0.2.1, (x1.2.1, ()))).1 then false else true) then (some (false, ())) else (bif (bif (g_ac (x0.2.2.1, (x1.2.2.1, ()))).1 then false else true) then (some (false, ())) else (bif (bif (decide (x0.2.2.2 = x1.2.2.2)) then false else true) then (some (false, ())) else (some (true, ())))))) := by kernel_rfl
theorem S_ad (h_ac : C_ac (fun _ => true) g_ac) {pre : In_ad -> Bool} {fn : In_ad -> Out_ad} (hev : ∀ x, pre x = true -> ∃ k, E_ad g_ac k x = some (fn x)) : C_ad pre fn := sound tysOk mixed (fn := Try.f97) rfl rfl rfl (.cons h_ac .nil) _ hev
end
/-! ae: leqSpcTestS -/
abbrev M_ae : List Vm.Mode := [.imm L_SpcTest, .imm L_SpcTest]
abbrev R_ae : List (RK × Sh) := [(.imm, .bool)]
abbrev In_ae : Type := (insSh M_ae).den
abbrev Out_ae : Type := (outSh R_ae M_ae).den
abbrev C_ae (pre : In_ae -> Bool) (fn : In_ae -> Out_ae) : Prop := Sound Try.prog 36 ⟨M_ae, R_ae, pre, fn⟩
section
variable (g_ad : In_ad -> Out_ad)
abbrev X_ae : Ctx := ctx tys 27 (conOf [(97, ⟨M_ad, R_ad, fun _ => true, g_ad⟩)]) (keepOf [(pt1, (⟨[(0, .asis), (1, .asis), (5, .asis)], [], []⟩ : Keep))]) (fun _ => [])
noncomputable abbrev E_ae (k : Nat) (x : In_ae) : Option Out_ae := evFn (X_ae g_ad) Try.f36 R_ae M_ae k x
def h0_ae (x0 : Dm (.imm L_SpcTest)) (x1 : Dm (.imm L_SpcTest)) (h0 : Dn I) : St := mkS [(0, (AV.val L_SpcTest x0)), (1, (AV.val L_SpcTest x1)), (5, (AV.val I h0))] []
noncomputable def r_ae (x : In_ae) (k : Nat) (p : List Bool) (s : St) : Option Out_ae := rounds (X_ae g_ad) Try.f36 R_ae M_ae x k p s
variable {g_ad}
theorem ev_ae (k : Nat) (x0 : Dm (.imm L_SpcTest)) (x1 : Dm (.imm L_SpcTest)) : E_ae g_ad k (x0, x1, ()) =
  (bif (bif (decide ((List.length x0 : Int) = (List.length x1 : Int))) then false else true) then (some (false, ())) else (r_ae g_ad (x0, x1, ()) k pt1 (h0_ae x0 x1 (0 : Int)))) := by kernel_rfl
theorem rd0_ae (k : Nat) (x0 : Dm (.imm L_SpcTest)) (x1 : Dm (.imm L_SpcTest)) (h0 : Dn I) : r_ae g_ad (x0, x1, ()) (k + 1) pt1 (h0_ae x0 x1 h0) =
  (bif (decide (h0 < (List.length x0 : Int))) then (bif (bif (decide ((0 : Int) <= h0)) then (decide (h0 < (List.length x0 : Int))) else false) then (bif (bif (decide ((0 : Int) <= h0)) then (decide (h0 < (List.length x1 : Int))) else false) then (bif (bif (g_ad ((rdL (e := S_SpcTest) x0 h0), ((rdL (e := S_SpcTest) x1 h0), ()))).1 then false else true) then (some (false, ())) else (r_ae g_ad (x0, x1, ()) k pt1 (h0_ae x0 x1 (w64 (h0 + (1 : Int)))))) else none) else none) else (some (true, ()))) := by kernel_rfl
theorem S_ae (h_ad : C_ad (fun _ => true) g_ad) {pre : In_ae -> Bool} {fn : In_ae -> Out_ae} (hev : ∀ x, pre x = true -> ∃ k, E_ae g_ad k x = some (fn x)) : C_ae pre fn := sound tysOk mixed (fn := Try.f36) rfl rfl rfl (.cons h_ad .nil) _ hev
end
/-! af: leqSpcSpec -/
abbrev M_af : List Vm.Mode := [.imm S_SpcSpec, .imm S_SpcSpec]
abbrev R_af : List (RK × Sh) := [(.imm, .bool)]
abbrev In_af : Type := (insSh M_af).den
abbrev Out_af : Type := (outSh R_af M_af).den
abbrev C_af (pre : In_af -> Bool) (fn : In_af -> Out_af) : Prop := Sound Try.prog 198 ⟨M_af, R_af, pre, fn⟩
section
variable (g_ae : In_ae -> Out_ae) (p_ae : In_ae -> Bool)
abbrev X_af : Ctx := ctx tys 16 (conOf [(36, ⟨M_ae, R_ae, p_ae, g_ae⟩)]) (keepOf []) (fun _ => [])
noncomputable abbrev E_af (k : Nat) (x : In_af) : Option Out_af := evFn (X_af g_ae p_ae) Try.f198 R_af M_af k x
variable {g_ae p_ae}
theorem ev_af (k : Nat) (x0 : Dm (.imm S_SpcSpec)) (x1 : Dm (.imm S_SpcSpec)) : E_af g_ae p_ae k (x0, x1, ()) =
  (bif (p_ae (x0.1, (x1.1, ()))) then (bif (bif (g_ae (x0.1, (x1.1, ()))).1 then false else true) then (some (false, ())) else (bif (bif (decide (x0.2 = x1.2)) then false else true) then (some (false, ())) else (some (true, ())))) else none) := by kernel_rfl
theorem S_af (h_ae : C_ae p_ae g_ae) {pre : In_af -> Bool} {fn : In_af -> Out_af} (hev : ∀ x, pre x = true -> ∃ k, E_af g_ae p_ae k x = some (fn x)) : C_af pre fn := sound tysOk mixed (fn := Try.f198) rfl rfl rfl (.cons h_ae .nil) _ hev
end
/-! ag: leqSpcSpecS -/
abbrev M_ag : List Vm.Mode := [.imm L_SpcSpec, .imm L_SpcSpec]
abbrev R_ag : List (RK × Sh) := [(.imm, .bool)]
abbrev In_ag : Type := (insSh M_ag).den
abbrev Out_ag : Type := (outSh R_ag M_ag).den
abbrev C_ag (pre : In_ag -> Bool) (fn : In_ag -> Out_ag) : Prop := Sound Try.prog 171 ⟨M_ag, R_ag, pre, fn⟩
section
variable (g_af : In_af -> Out_af) (p_af : In_af -> Bool)
abbrev X_ag : Ctx := ctx tys 27 (conOf [(198, ⟨M_af, R_af, p_af, g_af⟩)]) (keepOf [(pt1, (⟨[(0, .asis), (1, .asis), (5, .asis)], [], []⟩ : Keep))]) (fun _ => [])
noncomputable abbrev E_ag (k : Nat) (x : In_ag) : Option Out_ag := evFn (X_ag g_af p_af) Try.f171 R_ag M_ag k x
def h0_ag (x0 : Dm (.imm L_SpcSpec)) (x1 : Dm (.imm L_SpcSpec)) (h0 : Dn I) : St := mkS [(0, (AV.val L_SpcSpec x0)), (1, (AV.val L_SpcSpec x1)), (5, (AV.val I h0))] []
noncomputable def r_ag (x : In_ag) (k : Nat) (p : List Bool) (s : St) : Option Out_ag := rounds (X_ag g_af p_af) Try.f171 R_ag M_ag x k p s
variable {g_af p_af}
theorem ev_ag (k : Nat) (x0 : Dm (.imm L_SpcSpec)) (x1 : Dm (.imm L_SpcSpec)) : E_ag g_af p_af k (x0, x1, ()) =
  (bif (bif (decide ((List.length x0 : Int) = (List.length x1 : Int))) then false else true) then (some (false, ())) else (r_ag g_af p_af (x0, x1, ()) k pt1 (h0_ag x0 x1 (0 : Int)))) := by kernel_rfl
theorem rd0_ag (k : Nat) (x0 : Dm (.imm L_SpcSpec)) (x1 : Dm (.imm L_SpcSpec)) (h0 : Dn I) : r_ag g_af p_af (x0, x1, ()) (k + 1) pt1 (h0_ag x0 x1 h0) =
  (bif (decide (h0 < (List.length x0 : Int))) then (bif (bif (decide ((0 : Int) <= h0)) then (decide (h0 < (List.length x0 : Int))) else false) then (bif (bif (decide ((0 : Int) <= h0)) then (decide (h0 < (List.length x1 : Int))) else false) then (bif (p_af ((rdL (e := S_SpcSpec) x0 h0), ((rdL (e := S_SpcSpec) x1 h0), ()))) then (bif (bif (g_af ((rdL (e := S_SpcSpec) x0 h0), ((rdL (e := S_SpcSpec) x1 h0), ()))).1 then false else true) then (some (false, ())) else (r_ag g_af p_af (x0, x1, ()) k pt1 (h0_ag x0 x1 (w64 (h0 + (1 : Int)))))) else none) else none) else none) else (some (true, ()))) := by kernel_rfl
theorem S_ag (h_af : C_af p_af g_af) {pre : In_ag -> Bool} {fn : In_ag -> Out_ag} (hev : ∀ x, pre x = true -> ∃ k, E_ag g_af p_af k x = some (fn x)) : C_ag pre fn := sound tysOk mixed (fn := Try.f171) rfl rfl rfl (.cons h_af .nil) _ hev
end
/-! ah: leqDecDecS -/
abbrev M_ah : List Vm.Mode := [.imm L_DecDec, .imm L_DecDec]
abbrev R_ah : List (RK × Sh) := [(.imm, .bool)]
abbrev In_ah : Type := (insSh M_ah).den
abbrev Out_ah : Type := (outSh R_ah M_ah).den
abbrev C_ah (pre : In_ah -> Bool) (fn : In_ah -> Out_ah) : Prop := Sound Try.prog 135 ⟨M_ah, R_ah, pre, fn⟩
section
variable (g_ac : In_ac -> Out_ac)
abbrev X_ah : Ctx := ctx tys 27 (conOf [(156, ⟨M_ac, R_ac, fun _ => true, g_ac⟩)]) (keepOf [(pt1, (⟨[(0, .asis), (1, .asis), (5, .asis)], [], []⟩ : Keep))]) (fun _ => [])
noncomputable abbrev E_ah (k : Nat) (x : In_ah) : Option Out_ah := evFn (X_ah g_ac) Try.f135 R_ah M_ah k x
def h0_ah (x0 : Dm (.imm L_DecDec)) (x1 : Dm (.imm L_DecDec)) (h0 : Dn I) : St := mkS [(0, (AV.val L_DecDec x0)), (1, (AV.val L_DecDec x1)), (5, (AV.val I h0))] []
noncomputable def r_ah (x : In_ah) (k : Nat) (p : List Bool) (s : St) : Option Out_ah := rounds (X_ah g_ac) Try.f135 R_ah M_ah x k p s
variable {g_ac}
theorem ev_ah (k : Nat) (x0 : Dm (.imm L_DecDec)) (x1 : Dm (.imm L_DecDec)) : E_ah g_ac k (x0, x1, ()) =
  (bif (bif (decide ((List.length x0 : Int) = (List.length x1 : Int))) then false else true) then (some (false, ())) else (r_ah g_ac (x0, x1, ()) k pt1 (h0_ah x0 x1 (0 : Int)))) := by kernel_rfl
theorem rd0_ah (k : Nat) (x0 : Dm (.imm L_DecDec)) (x1 : Dm (.imm L_DecDec)) (h0 : Dn I) : r_ah g_ac (x0, x1, ()) (k + 1) pt1 (h0_ah x0 x1 h0) =
  (bif (decide (h0 < (List.length x0 : Int))) then (bif (bif (decide ((0 : Int) <= h0)) then (decide (h0 < (List.length x0 : Int))) else false) then (bif (bif (decide ((0 : Int) <= h0)) then (decide (h0 < (List.length x1 : Int))) else false) then (bif (bif (g_ac ((rdL (e := S_DecDec) x0 h0), ((rdL (e := S_DecDec) x1 h0), ()))).1 then false else true) then (some (false, ())) else (r_ah g_ac (x0, x1, ()) k pt1 (h0_ah x0 x1 (w64 (h0 + (1 : Int)))))) else none) else none) else (some (true, ()))) := by kernel_rfl
theorem S_ah (h_ac : C_ac (fun _ => true) g_ac) {pre : In_ah -> Bool} {fn : In_ah -> Out_ah} (hev : ∀ x, pre x = true -> ∃ k, E_ah g_ac k x = some (fn x)) : C_ah pre fn := sound tysOk mixed (fn := Try.f135) rfl rfl rfl (.cons h_ac .nil) _ hev
end
/-! ai: leqTstTest -/
abbrev M_ai : List Vm.Mode := [.imm S_TstTest, .imm S_TstTest]
abbrev R_ai : List (RK × Sh) := [(.imm, .bool)]
abbrev In_ai : Type := (insSh M_ai).den
abbrev Out_ai : Type := (outSh R_ai M_ai).den
abbrev C_ai (pre : In_ai -> Bool) (fn : In_ai -> Out_ai) : Prop := Sound Try.prog 154 ⟨M_ai, R_ai, pre, fn⟩
section
variable (g_ad : In_ad -> Out_ad) (g_ac : In_ac -> Out_ac) (g_ah : In_ah -> Out_ah) (p_ah : In_ah -> Bool)
abbrev X_ai : Ctx := ctx tys 33 (conOf [(97, ⟨M_ad, R_ad, fun _ => true, g_ad⟩), (156, ⟨M_ac, R_ac, fun _ => true, g_ac⟩), (135, ⟨M_ah, R_ah, p_ah, g_ah⟩)]) (keepOf []) (fun _ => [])
noncomputable abbrev E_ai (k : Nat) (x : In_ai) : Option Out_ai := evFn (X_ai g_ad g_ac g_ah p_ah) Try.f154 R_ai M_ai k x
variable {g_ad g_ac g_ah p_ah}
theorem ev_ai (k : Nat) (x0 : Dm (.imm S_TstTest)) (x1 : Dm (.imm S_TstTest)) : E_ai g_ad g_ac g_ah p_ah k (x0, x1, ()) =
  (bif (bif (g_ad (x0.1, (x1.1, ()))).1 then false else true) then (some (false, ())) else (bif (bif (decide (x0.2.1 = x1.2.1)) then false else true) then (some (false, ())) else (bif (bif (g_ac (x0.2.2.1, (x1.2.2.1, ()))).1 then false else true) then (some (false, ())) else (bif (bif (decide (x0.2.2.2.1 = x1.2.2.2.1)) then false else true) then (some (false, ())) else (bif (p_ah (x0.2.2.2.2, (x1.2.2.2.2, ()))) then (bif (bif (g_ah (x0.2.2.2.2, (x1.2.2.2.2, ()))).1 then false else true) then (some (false, ())) else (some (true, ()))) else none))))) := by kernel_rfl
theorem S_ai (h_ad : C_ad (fun _ => true) g_ad) (h_ac : C_ac (fun _ => true) g_ac) (h_ah : C_ah p_ah g_ah) {pre : In_ai -> Bool} {fn : In_ai -> Out_ai} (hev : ∀ x, pre x = true -> ∃ k, E_ai g_ad g_ac g_ah p_ah k x = some (fn x)) : C_ai pre fn := sound tysOk mixed (fn := Try.f154) rfl rfl rfl (.cons h_ad (.cons h_ac (.cons h_ah .nil))) _ hev
end
/-! aj: leqTstTestS -/
abbrev M_aj : List Vm.Mode := [.imm L_TstTest, .imm L_TstTest]
abbrev R_aj : List (RK × Sh) := [(.imm, .bool)]
abbrev In_aj : Type := (insSh M_aj).den
abbrev Out_aj : Type := (outSh R_aj M_aj).den
abbrev C_aj (pre : In_aj -> Bool) (fn : In_aj -> Out_aj) : Prop := Sound Try.prog 94 ⟨M_aj, R_aj, pre, fn⟩
section
variable (g_ai : In_ai -> Out_ai) (p_ai : In_ai -> Bool)
abbrev X_aj : Ctx := ctx tys 27 (conOf [(154, ⟨M_ai, R_ai, p_ai, g_ai⟩)]) (keepOf [(pt1, (⟨[(0, .asis), (1, .asis), (5, .asis)], [], []⟩ : Keep))]) (fun _ => [])
noncomputable abbrev E_aj (k : Nat) (x : In_aj) : Option Out_aj := evFn (X_aj g_ai p_ai) Try.f94 R_aj M_aj k x
def h0_aj (x0 : Dm (.imm L_TstTest)) (x1 : Dm (.imm L_TstTest)) (h0 : Dn I) : St := mkS [(0, (AV.val L_TstTest x0)), (1, (AV.val L_TstTest x1)), (5, (AV.val I h0))] []
noncomputable def r_aj (x : In_aj) (k : Nat) (p : List Bool) (s : St) : Option Out_aj := rounds (X_aj g_ai p_ai) Try.f94 R_aj M_aj x k p s
variable {g_ai p_ai}
theorem ev_aj (k : Nat) (x0 : Dm (.imm L_TstTest)) (x1 : Dm (.imm L_TstTest)) : E_aj g_ai p_ai k (x0, x1, ()) =
  (bif (bif (decide ((List.length x0 : Int) = (List.length x1 : Int))) then false else true) then (some (false, ())) else (r_aj g_ai p_ai (x0, x1, ()) k pt1 (h0_aj x0 x1 (0 : Int)))) := by kernel_rfl
theorem rd0_aj (k : Nat) (x0 : Dm (.imm L_TstTest)) (x1 : Dm (.imm L_TstTest)) (h0 : Dn I) : r_aj g_ai p_ai (x0, x1, ()) (k + 1) pt1 (h0_aj x0 x1 h0) =
  (bif (decide (h0 < (List.length x0 : Int))) then (bif (bif (decide ((0 : Int) <= h0)) then (decide (h0 < (List.length x0 : Int))) else false) then (bif (bif (decide ((0 : Int) <= h0)) then (decide (h0 < (List.length x1 : Int))) else false) then (cl (p_ai ((rdL (e := S_TstTest) x0 h0), ((rdL (e := S_TstTest) x1 h0), ()))) (g_ai ((rdL (e := S_TstTest) x0 h0), ((rdL (e := S_TstTest) x1 h0), ()))) fun y0 => (bif (bif y0.1 then false else true) then (some (false, ())) else (r_aj g_ai p_ai (x0, x1, ()) k pt1 (h0_aj x0 x1 (w64 (h0 + (1 : Int))))))) else none) else none) else (some (true, ()))) := by kernel_rfl
theorem S_aj (h_ai : C_ai p_ai g_ai) {pre : In_aj -> Bool} {fn : In_aj -> Out_aj} (hev : ∀ x, pre x = true -> ∃ k, E_aj g_ai p_ai k x = some (fn x)) : C_aj pre fn := sound tysOk mixed (fn := Try.f94) rfl rfl rfl (.cons h_ai .nil) _ hev
end
/-! ak: leqBatSig -/
abbrev M_ak : List Vm.Mode := [.imm S_DayDay, .imm S_DayDay]
abbrev R_ak : List (RK × Sh) := [(.imm, .bool)]
abbrev In_ak : Type := (insSh M_ak).den
abbrev Out_ak : Type := (outSh R_ak M_ak).den
abbrev C_ak (pre : In_ak -> Bool) (fn : In_ak -> Out_ak) : Prop := Sound Try.prog 155 ⟨M_ak, R_ak, pre, fn⟩
abbrev X_ak : Ctx := ctx tys 20 (conOf []) (keepOf []) (fun _ => [])
noncomputable abbrev E_ak (k : Nat) (x : In_ak) : Option Out_ak := evFn X_ak Try.f155 R_ak M_ak k x
theorem ev_ak (k : Nat) (x0 : Dm (.imm S_DayDay)) (x1 : Dm (.imm S_DayDay)) : E_ak k (x0, x1, ()) =
  (bif (bif (decide (x0.1 = x1.1)) then false else true) then (some (false, ())) else (bif (bif (decide (x0.2.1 = x1.2.1)) then false else true) then (some (false, ())) else (bif (bif (decide (x0.2.2 = x1.2.2)) then false else true) then (some (false, ())) else (some (true, ()))))) := by kernel_rfl
theorem S_ak  {pre : In_ak -> Bool} {fn : In_ak -> Out_ak} (hev : ∀ x, pre x = true -> ∃ k, E_ak k x = some (fn x)) : C_ak pre fn := sound tysOk mixed (fn := Try.f155) rfl rfl rfl ConsOk.nil _ hev
/-! al: leqBatSigS -/
abbrev M_al : List Vm.Mode := [.imm L_BatSig, .imm L_BatSig]
abbrev R_al : List (RK × Sh) := [(.imm, .bool)]
abbrev In_al : Type := (insSh M_al).den
abbrev Out_al : Type := (outSh R_al M_al).den
abbrev C_al (pre : In_al -> Bool) (fn : In_al -> Out_al) : Prop := Sound Try.prog 95 ⟨M_al, R_al, pre, fn⟩
section
variable (g_ak : In_ak -> Out_ak)
abbrev X_al : Ctx := ctx tys 27 (conOf [(155, ⟨M_ak, R_ak, fun _ => true, g_ak⟩)]) (keepOf [(pt1, (⟨[(0, .asis), (1, .asis), (5, .asis)], [], []⟩ : Keep))]) (fun _ => [])
noncomputable abbrev E_al (k : Nat) (x : In_al) : Option Out_al := evFn (X_al g_ak) Try.f95 R_al M_al k x
def h0_al (x0 : Dm (.imm L_BatSig)) (x1 : Dm (.imm L_BatSig)) (h0 : Dn I) : St := mkS [(0, (AV.val L_BatSig x0)), (1, (AV.val L_BatSig x1)), (5, (AV.val I h0))] []
noncomputable def r_al (x : In_al) (k : Nat) (p : List Bool) (s : St) : Option Out_al := rounds (X_al g_ak) Try.f95 R_al M_al x k p s
variable {g_ak}
theorem ev_al (k : Nat) (x0 : Dm (.imm L_BatSig)) (x1 : Dm (.imm L_BatSig)) : E_al g_ak k (x0, x1, ()) =
  (bif (bif (decide ((List.length x0 : Int) = (List.length x1 : Int))) then false else true) then (some (false, ())) else (r_al g_ak (x0, x1, ()) k pt1 (h0_al x0 x1 (0 : Int)))) := by kernel_rfl
theorem rd0_al (k : Nat) (x0 : Dm (.imm L_BatSig)) (x1 : Dm (.imm L_BatSig)) (h0 : Dn I) : r_al g_ak (x0, x1, ()) (k + 1) pt1 (h0_al x0 x1 h0) =
  (bif (decide (h0 < (List.length x0 : Int))) then (bif (bif (decide ((0 : Int) <= h0)) then (decide (h0 < (List.length x0 : Int))) else false) then (bif (bif (decide ((0 : Int) <= h0)) then (decide (h0 < (List.length x1 : Int))) else false) then (bif (bif (g_ak ((rdL (e := S_DayDay) x0 h0), ((rdL (e := S_DayDay) x1 h0), ()))).1 then false else true) then (some (false, ())) else (r_al g_ak (x0, x1, ()) k pt1 (h0_al x0 x1 (w64 (h0 + (1 : Int)))))) else none) else none) else (some (true, ()))) := by kernel_rfl
theorem S_al (h_ak : C_ak (fun _ => true) g_ak) {pre : In_al -> Bool} {fn : In_al -> Out_al} (hev : ∀ x, pre x = true -> ∃ k, E_al g_ak k x = some (fn x)) : C_al pre fn := sound tysOk mixed (fn := Try.f95) rfl rfl rfl (.cons h_ak .nil) _ hev
end
/-! am: leqBoolS -/
abbrev M_am : List Vm.Mode := [.imm L_bool, .imm L_bool]
abbrev R_am : List (RK × Sh) := [(.imm, .bool)]
abbrev In_am : Type := (insSh M_am).den
abbrev Out_am : Type := (outSh R_am M_am).den
abbrev C_am (pre : In_am -> Bool) (fn : In_am -> Out_am) : Prop := Sound Try.prog 96 ⟨M_am, R_am, pre, fn⟩
abbrev X_am : Ctx := ctx tys 26 (conOf []) (keepOf [(pt1, (⟨[(0, .asis), (1, .asis), (5, .asis)], [], []⟩ : Keep))]) (fun _ => [])
noncomputable abbrev E_am (k : Nat) (x : In_am) : Option Out_am := evFn X_am Try.f96 R_am M_am k x
def h0_am (x0 : Dm (.imm L_bool)) (x1 : Dm (.imm L_bool)) (h0 : Dn I) : St := mkS [(0, (AV.val L_bool x0)), (1, (AV.val L_bool x1)), (5, (AV.val I h0))] []
noncomputable def r_am (x : In_am) (k : Nat) (p : List Bool) (s : St) : Option Out_am := rounds X_am Try.f96 R_am M_am x k p s
theorem ev_am (k : Nat) (x0 : Dm (.imm L_bool)) (x1 : Dm (.imm L_bool)) : E_am k (x0, x1, ()) =
  (bif (bif (decide ((List.length x0 : Int) = (List.length x1 : Int))) then false else true) then (some (false, ())) else (r_am  (x0, x1, ()) k pt1 (h0_am x0 x1 (0 : Int)))) := by kernel_rfl
theorem rd0_am (k : Nat) (x0 : Dm (.imm L_bool)) (x1 : Dm (.imm L_bool)) (h0 : Dn I) : r_am  (x0, x1, ()) (k + 1) pt1 (h0_am x0 x1 h0) =
  (bif (decide (h0 < (List.length x0 : Int))) then (bif (bif (decide ((0 : Int) <= h0)) then (decide (h0 < (List.length x0 : Int))) else false) then (bif (bif (decide ((0 : Int) <= h0)) then (decide (h0 < (List.length x1 : Int))) else false) then (bif (bif ((rdL (e := Sh.bool) x0 h0) == (rdL (e := Sh.bool) x1 h0)) then false else true) then (some (false, ())) else (r_am  (x0, x1, ()) k pt1 (h0_am x0 x1 (w64 (h0 + (1 : Int)))))) else none) else none) else (some (true, ()))) := by kernel_rfl
theorem S_am  {pre : In_am -> Bool} {fn : In_am -> Out_am} (hev : ∀ x, pre x = true -> ∃ k, E_am k x = some (fn x)) : C_am pre fn := sound tysOk mixed (fn := Try.f96) rfl rfl rfl ConsOk.nil _ hev
/-! an: leqBatBatch -/
abbrev M_an : List Vm.Mode := [.imm S_BatBatch, .imm S_BatBatch]
abbrev R_an : List (RK × Sh) := [(.imm, .bool)]
abbrev In_an : Type := (insSh M_an).den
abbrev Out_an : Type := (outSh R_an M_an).den
abbrev C_an (pre : In_an -> Bool) (fn : In_an -> Out_an) : Prop := Sound Try.prog 35 ⟨M_an, R_an, pre, fn⟩
section
variable (g_aj : In_aj -> Out_aj) (p_aj : In_aj -> Bool) (g_al : In_al -> Out_al) (p_al : In_al -> Bool) (g_am : In_am -> Out_am) (p_am : In_am -> Bool)
abbrev X_an : Ctx := ctx tys 38 (conOf [(94, ⟨M_aj, R_aj, p_aj, g_aj⟩), (95, ⟨M_al, R_al, p_al, g_al⟩), (96, ⟨M_am, R_am, p_am, g_am⟩)]) (keepOf []) (fun _ => [])
noncomputable abbrev E_an (k : Nat) (x : In_an) : Option Out_an := evFn (X_an g_aj p_aj g_al p_al g_am p_am) Try.f35 R_an M_an k x
variable {g_aj p_aj g_al p_al g_am p_am}
theorem ev_an (k : Nat) (x0 : Dm (.imm S_BatBatch)) (x1 : Dm (.imm S_BatBatch)) : E_an g_aj p_aj g_al p_al g_am p_am k (x0, x1, ()) =
  (bif (bif (decide (x0.1 = x1.1)) then false else true) then (some (false, ())) else (bif (bif (decide (x0.2.1 = x1.2.1)) then false else true) then (some (false, ())) else (cl (p_aj (x0.2.2.1, (x1.2.2.1, ()))) (g_aj (x0.2.2.1, (x1.2.2.1, ()))) fun y0 => (bif (bif y0.1 then false else true) then (some (false, ())) else (bif (bif (decide (x0.2.2.2.1 = x1.2.2.2.1)) then false else true) then (some (false, ())) else (cl (p_al (x0.2.2.2.2.1, (x1.2.2.2.2.1, ()))) (g_al (x0.2.2.2.2.1, (x1.2.2.2.2.1, ()))) fun y1 => (bif (bif y1.1 then false else true) then (some (false, ())) else (cl (p_am (x0.2.2.2.2.2, (x1.2.2.2.2.2, ()))) (g_am (x0.2.2.2.2.2, (x1.2.2.2.2.2, ()))) fun y2 => (bif (bif y2.1 then false else true) then (some (false, ())) else (some (true, ()))))))))))) := by kernel_rfl
theorem S_an (h_aj : C_aj p_aj g_aj) (h_al : C_al p_al g_al) (h_am : C_am p_am g_am) {pre : In_an -> Bool} {fn : In_an -> Out_an} (hev : ∀ x, pre x = true -> ∃ k, E_an g_aj p_aj g_al p_al g_am p_am k x = some (fn x)) : C_an pre fn := sound tysOk mixed (fn := Try.f35) rfl rfl rfl (.cons h_aj (.cons h_al (.cons h_am .nil))) _ hev
end
/-! ao: leqBatBatchS -/
abbrev M_ao : List Vm.Mode := [.imm L_BatBatch, .imm L_BatBatch]
abbrev R_ao : List (RK × Sh) := [(.imm, .bool)]
abbrev In_ao : Type := (insSh M_ao).den
abbrev Out_ao : Type := (outSh R_ao M_ao).den
abbrev C_ao (pre : In_ao -> Bool) (fn : In_ao -> Out_ao) : Prop := Sound Try.prog 172 ⟨M_ao, R_ao, pre, fn⟩
section
variable (g_an : In_an -> Out_an) (p_an : In_an -> Bool)
abbrev X_ao : Ctx := ctx tys 27 (conOf [(35, ⟨M_an, R_an, p_an, g_an⟩)]) (keepOf [(pt1, (⟨[(0, .asis), (1, .asis), (5, .asis)], [], []⟩ : Keep))]) (fun _ => [])
noncomputable abbrev E_ao (k : Nat) (x : In_ao) : Option Out_ao := evFn (X_ao g_an p_an) Try.f172 R_ao M_ao k x
def h0_ao (x0 : Dm (.imm L_BatBatch)) (x1 : Dm (.imm L_BatBatch)) (h0 : Dn I) : St := mkS [(0, (AV.val L_BatBatch x0)), (1, (AV.val L_BatBatch x1)), (5, (AV.val I h0))] []
noncomputable def r_ao (x : In_ao) (k : Nat) (p : List Bool) (s : St) : Option Out_ao := rounds (X_ao g_an p_an) Try.f172 R_ao M_ao x k p s
variable {g_an p_an}
theorem ev_ao (k : Nat) (x0 : Dm (.imm L_BatBatch)) (x1 : Dm (.imm L_BatBatch)) : E_ao g_an p_an k (x0, x1, ()) =
  (bif (bif (decide ((List.length x0 : Int) = (List.length x1 : Int))) then false else true) then (some (false, ())) else (r_ao g_an p_an (x0, x1, ()) k pt1 (h0_ao x0 x1 (0 : Int)))) := by kernel_rfl
theorem rd0_ao (k : Nat) (x0 : Dm (.imm L_BatBatch)) (x1 : Dm (.imm L_BatBatch)) (h0 : Dn I) : r_ao g_an p_an (x0, x1, ()) (k + 1) pt1 (h0_ao x0 x1 h0) =
  (bif (decide (h0 < (List.length x0 : Int))) then (bif (bif (decide ((0 : Int) <= h0)) then (decide (h0 < (List.length x0 : Int))) else false) then (bif (bif (decide ((0 : Int) <= h0)) then (decide (h0 < (List.length x1 : Int))) else false) then (cl (p_an ((rdL (e := S_BatBatch) x0 h0), ((rdL (e := S_BatBatch) x1 h0), ()))) (g_an ((rdL (e := S_BatBatch) x0 h0), ((rdL (e := S_BatBatch) x1 h0), ()))) fun y0 => (bif (bif y0.1 then false else true) then (some (false, ())) else (r_ao g_an p_an (x0, x1, ()) k pt1 (h0_ao x0 x1 (w64 (h0 + (1 : Int))))))) else none) else none) else (some (true, ()))) := by kernel_rfl
theorem S_ao (h_an : C_an p_an g_an) {pre : In_ao -> Bool} {fn : In_ao -> Out_ao} (hev : ∀ x, pre x = true -> ∃ k, E_ao g_an p_an k x = some (fn x)) : C_ao pre fn := sound tysOk mixed (fn := Try.f172) rfl rfl rfl (.cons h_an .nil) _ hev
end
/-! ap: leqHouHouse -/
abbrev M_ap : List Vm.Mode := [.imm S_HouHouse, .imm S_HouHouse]
abbrev R_ap : List (RK × Sh) := [(.imm, .bool)]
abbrev In_ap : Type := (insSh M_ap).den
abbrev Out_ap : Type := (outSh R_ap M_ap).den
abbrev C_ap (pre : In_ap -> Bool) (fn : In_ap -> Out_ap) : Prop := Sound Try.prog 118 ⟨M_ap, R_ap, pre, fn⟩
section
variable (g_ab : In_ab -> Out_ab) (p_ab : In_ab -> Bool) (g_ag : In_ag -> Out_ag) (p_ag : In_ag -> Bool) (g_ao : In_ao -> Out_ao) (p_ao : In_ao -> Bool)
abbrev X_ap : Ctx := ctx tys 23 (conOf [(50, ⟨M_ab, R_ab, p_ab, g_ab⟩), (171, ⟨M_ag, R_ag, p_ag, g_ag⟩), (172, ⟨M_ao, R_ao, p_ao, g_ao⟩)]) (keepOf []) (fun _ => [])
noncomputable abbrev E_ap (k : Nat) (x : In_ap) : Option Out_ap := evFn (X_ap g_ab p_ab g_ag p_ag g_ao p_ao) Try.f118 R_ap M_ap k x
variable {g_ab p_ab g_ag p_ag g_ao p_ao}
theorem ev_ap (k : Nat) (x0 : Dm (.imm S_HouHouse)) (x1 : Dm (.imm S_HouHouse)) : E_ap g_ab p_ab g_ag p_ag g_ao p_ao k (x0, x1, ()) =
  (cl (p_ab (x0.1, (x1.1, ()))) (g_ab (x0.1, (x1.1, ()))) fun y0 => (bif (bif y0.1 then false else true) then (some (false, ())) else (cl (p_ag (x0.2.1, (x1.2.1, ()))) (g_ag (x0.2.1, (x1.2.1, ()))) fun y1 => (bif (bif y1.1 then false else true) then (some (false, ())) else (cl (p_ao (x0.2.2, (x1.2.2, ()))) (g_ao (x0.2.2, (x1.2.2, ()))) fun y2 => (bif (bif y2.1 then false else true) then (some (false, ())) else (some (true, ())))))))) := by kernel_rfl
theorem S_ap (h_ab : C_ab p_ab g_ab) (h_ag : C_ag p_ag g_ag) (h_ao : C_ao p_ao g_ao) {pre : In_ap -> Bool} {fn : In_ap -> Out_ap} (hev : ∀ x, pre x = true -> ∃ k, E_ap g_ab p_ab g_ag p_ag g_ao p_ao k x = some (fn x)) : C_ap pre fn := sound tysOk mixed (fn := Try.f118) rfl rfl rfl (.cons h_ab (.cons h_ag (.cons h_ao .nil))) _ hev
end
/-! aq: leqReqReq -/
abbrev M_aq : List Vm.Mode := [.imm S_ReqReq, .imm S_ReqReq]
abbrev R_aq : List (RK × Sh) := [(.imm, .bool)]
abbrev In_aq : Type := (insSh M_aq).den
abbrev Out_aq : Type := (outSh R_aq M_aq).den
abbrev C_aq (pre : In_aq -> Bool) (fn : In_aq -> Out_aq) : Prop := Sound Try.prog 199 ⟨M_aq, R_aq, pre, fn⟩
section
variable (g_ac : In_ac -> Out_ac) (g_ae : In_ae -> Out_ae) (p_ae : In_ae -> Bool)
abbrev X_aq : Ctx := ctx tys 42 (conOf [(156, ⟨M_ac, R_ac, fun _ => true, g_ac⟩), (36, ⟨M_ae, R_ae, p_ae, g_ae⟩)]) (keepOf []) (fun _ => [])
noncomputable abbrev E_aq (k : Nat) (x : In_aq) : Option Out_aq := evFn (X_aq g_ac g_ae p_ae) Try.f199 R_aq M_aq k x
variable {g_ac g_ae p_ae}
theorem ev_aq (k : Nat) (x0 : Dm (.imm S_ReqReq)) (x1 : Dm (.imm S_ReqReq)) : E_aq g_ac g_ae p_ae k (x0, x1, ()) =
  (bif (bif (decide (x0.1 = x1.1)) then false else true) then (some (false, ())) else (bif (bif (decide (x0.2.1 = x1.2.1)) then false else true) then (some (false, ())) else (bif (bif (decide (x0.2.2.1 = x1.2.2.1)) then false else true) then (some (false, ())) else (bif (bif (decide (x0.2.2.2.1 = x1.2.2.2.1)) then false else true) then (some (false, ())) else (bif (bif (decide (x0.2.2.2.2.1 = x1.2.2.2.2.1)) then false else true) then (some (false, ())) else (bif (bif (g_ac (x0.2.2.2.2.2.1, (x1.2.2.2.2.2.1, ()))).1 then false else true) then (some (false, ())) else (cl (p_ae (x0.2.2.2.2.2.2, (x1.2.2.2.2.2.2, ()))) (g_ae (x0.2.2.2.2.2.2, (x1.2.2.2.2.2.2, ()))) fun y0 => (bif (bif y0.1 then false else true) then (some (false, ())) else (some (true, ())))))))))) := by kernel_rfl
theorem S_aq (h_ac : C_ac (fun _ => true) g_ac) (h_ae : C_ae p_ae g_ae) {pre : In_aq -> Bool} {fn : In_aq -> Out_aq} (hev : ∀ x, pre x = true -> ∃ k, E_aq g_ac g_ae p_ae k x = some (fn x)) : C_aq pre fn := sound tysOk mixed (fn := Try.f199) rfl rfl rfl (.cons h_ac (.cons h_ae .nil)) _ hev
end
/-! ar: leqAudLine -/
abbrev M_ar : List Vm.Mode := [.imm S_AudLine, .imm S_AudLine]
abbrev R_ar : List (RK × Sh) := [(.imm, .bool)]
abbrev In_ar : Type := (insSh M_ar).den
abbrev Out_ar : Type := (outSh R_ar M_ar).den
abbrev C_ar (pre : In_ar -> Bool) (fn : In_ar -> Out_ar) : Prop := Sound Try.prog 173 ⟨M_ar, R_ar, pre, fn⟩
section
variable (g_aq : In_aq -> Out_aq) (p_aq : In_aq -> Bool)
abbrev X_ar : Ctx := ctx tys 16 (conOf [(199, ⟨M_aq, R_aq, p_aq, g_aq⟩)]) (keepOf []) (fun _ => [])
noncomputable abbrev E_ar (k : Nat) (x : In_ar) : Option Out_ar := evFn (X_ar g_aq p_aq) Try.f173 R_ar M_ar k x
variable {g_aq p_aq}
theorem ev_ar (k : Nat) (x0 : Dm (.imm S_AudLine)) (x1 : Dm (.imm S_AudLine)) : E_ar g_aq p_aq k (x0, x1, ()) =
  (cl (p_aq (x0.1, (x1.1, ()))) (g_aq (x0.1, (x1.1, ()))) fun y0 => (bif (bif y0.1 then false else true) then (some (false, ())) else (bif (bif (decide (x0.2 = x1.2)) then false else true) then (some (false, ())) else (some (true, ()))))) := by kernel_rfl
theorem S_ar (h_aq : C_aq p_aq g_aq) {pre : In_ar -> Bool} {fn : In_ar -> Out_ar} (hev : ∀ x, pre x = true -> ∃ k, E_ar g_aq p_aq k x = some (fn x)) : C_ar pre fn := sound tysOk mixed (fn := Try.f173) rfl rfl rfl (.cons h_aq .nil) _ hev
end
/-! as: leqAudLineS -/
abbrev M_as : List Vm.Mode := [.imm L_AudLine, .imm L_AudLine]
abbrev R_as : List (RK × Sh) := [(.imm, .bool)]
abbrev In_as : Type := (insSh M_as).den
abbrev Out_as : Type := (outSh R_as M_as).den
abbrev C_as (pre : In_as -> Bool) (fn : In_as -> Out_as) : Prop := Sound Try.prog 119 ⟨M_as, R_as, pre, fn⟩
section
variable (g_ar : In_ar -> Out_ar) (p_ar : In_ar -> Bool)
abbrev X_as : Ctx := ctx tys 27 (conOf [(173, ⟨M_ar, R_ar, p_ar, g_ar⟩)]) (keepOf [(pt1, (⟨[(0, .asis), (1, .asis), (5, .asis)], [], []⟩ : Keep))]) (fun _ => [])
noncomputable abbrev E_as (k : Nat) (x : In_as) : Option Out_as := evFn (X_as g_ar p_ar) Try.f119 R_as M_as k x
def h0_as (x0 : Dm (.imm L_AudLine)) (x1 : Dm (.imm L_AudLine)) (h0 : Dn I) : St := mkS [(0, (AV.val L_AudLine x0)), (1, (AV.val L_AudLine x1)), (5, (AV.val I h0))] []
noncomputable def r_as (x : In_as) (k : Nat) (p : List Bool) (s : St) : Option Out_as := rounds (X_as g_ar p_ar) Try.f119 R_as M_as x k p s
variable {g_ar p_ar}
theorem ev_as (k : Nat) (x0 : Dm (.imm L_AudLine)) (x1 : Dm (.imm L_AudLine)) : E_as g_ar p_ar k (x0, x1, ()) =
  (bif (bif (decide ((List.length x0 : Int) = (List.length x1 : Int))) then false else true) then (some (false, ())) else (r_as g_ar p_ar (x0, x1, ()) k pt1 (h0_as x0 x1 (0 : Int)))) := by kernel_rfl
theorem rd0_as (k : Nat) (x0 : Dm (.imm L_AudLine)) (x1 : Dm (.imm L_AudLine)) (h0 : Dn I) : r_as g_ar p_ar (x0, x1, ()) (k + 1) pt1 (h0_as x0 x1 h0) =
  (bif (decide (h0 < (List.length x0 : Int))) then (bif (bif (decide ((0 : Int) <= h0)) then (decide (h0 < (List.length x0 : Int))) else false) then (bif (bif (decide ((0 : Int) <= h0)) then (decide (h0 < (List.length x1 : Int))) else false) then (cl (p_ar ((rdL (e := S_AudLine) x0 h0), ((rdL (e := S_AudLine) x1 h0), ()))) (g_ar ((rdL (e := S_AudLine) x0 h0), ((rdL (e := S_AudLine) x1 h0), ()))) fun y0 => (bif (bif y0.1 then false else true) then (some (false, ())) else (r_as g_ar p_ar (x0, x1, ()) k pt1 (h0_as x0 x1 (w64 (h0 + (1 : Int))))))) else none) else none) else (some (true, ()))) := by kernel_rfl
theorem S_as (h_ar : C_ar p_ar g_ar) {pre : In_as -> Bool} {fn : In_as -> Out_as} (hev : ∀ x, pre x = true -> ∃ k, E_as g_ar p_ar k x = some (fn x)) : C_as pre fn := sound tysOk mixed (fn := Try.f119) rfl rfl rfl (.cons h_ar .nil) _ hev
end
/-! at: leqSesSes -/
abbrev M_at : List Vm.Mode := [.imm S_SesSes, .imm S_SesSes]
abbrev R_at : List (RK × Sh) := [(.imm, .bool)]
abbrev In_at : Type := (insSh M_at).den
abbrev Out_at : Type := (outSh R_at M_at).den
abbrev C_at (pre : In_at -> Bool) (fn : In_at -> Out_at) : Prop := Sound Try.prog 174 ⟨M_at, R_at, pre, fn⟩
section
variable (g_aq : In_aq -> Out_aq) (p_aq : In_aq -> Bool)
abbrev X_at : Ctx := ctx tys 26 (conOf [(199, ⟨M_aq, R_aq, p_aq, g_aq⟩)]) (keepOf []) (fun _ => [])
noncomputable abbrev E_at (k : Nat) (x : In_at) : Option Out_at := evFn (X_at g_aq p_aq) Try.f174 R_at M_at k x
variable {g_aq p_aq}
theorem ev_at (k : Nat) (x0 : Dm (.imm S_SesSes)) (x1 : Dm (.imm S_SesSes)) : E_at g_aq p_aq k (x0, x1, ()) =
  (bif (bif (x0.1 == x1.1) then false else true) then (some (false, ())) else (cl (p_aq (x0.2.1, (x1.2.1, ()))) (g_aq (x0.2.1, (x1.2.1, ()))) fun y0 => (bif (bif y0.1 then false else true) then (some (false, ())) else (bif (bif (decide (x0.2.2.1 = x1.2.2.1)) then false else true) then (some (false, ())) else (bif (bif (decide (x0.2.2.2 = x1.2.2.2)) then false else true) then (some (false, ())) else (some (true, ()))))))) := by kernel_rfl
theorem S_at (h_aq : C_aq p_aq g_aq) {pre : In_at -> Bool} {fn : In_at -> Out_at} (hev : ∀ x, pre x = true -> ∃ k, E_at g_aq p_aq k x = some (fn x)) : C_at pre fn := sound tysOk mixed (fn := Try.f174) rfl rfl rfl (.cons h_aq .nil) _ hev
end
/-! au: leqSesSesS -/
abbrev M_au : List Vm.Mode := [.imm L_SesSes, .imm L_SesSes]
abbrev R_au : List (RK × Sh) := [(.imm, .bool)]
abbrev In_au : Type := (insSh M_au).den
abbrev Out_au : Type := (outSh R_au M_au).den
abbrev C_au (pre : In_au -> Bool) (fn : In_au -> Out_au) : Prop := Sound Try.prog 120 ⟨M_au, R_au, pre, fn⟩
section
variable (g_at : In_at -> Out_at) (p_at : In_at -> Bool)
abbrev X_au : Ctx := ctx tys 27 (conOf [(174, ⟨M_at, R_at, p_at, g_at⟩)]) (keepOf [(pt1, (⟨[(0, .asis), (1, .asis), (5, .asis)], [], []⟩ : Keep))]) (fun _ => [])
noncomputable abbrev E_au (k : Nat) (x : In_au) : Option Out_au := evFn (X_au g_at p_at) Try.f120 R_au M_au k x
def h0_au (x0 : Dm (.imm L_SesSes)) (x1 : Dm (.imm L_SesSes)) (h0 : Dn I) : St := mkS [(0, (AV.val L_SesSes x0)), (1, (AV.val L_SesSes x1)), (5, (AV.val I h0))] []
noncomputable def r_au (x : In_au) (k : Nat) (p : List Bool) (s : St) : Option Out_au := rounds (X_au g_at p_at) Try.f120 R_au M_au x k p s
variable {g_at p_at}
theorem ev_au (k : Nat) (x0 : Dm (.imm L_SesSes)) (x1 : Dm (.imm L_SesSes)) : E_au g_at p_at k (x0, x1, ()) =
  (bif (bif (decide ((List.length x0 : Int) = (List.length x1 : Int))) then false else true) then (some (false, ())) else (r_au g_at p_at (x0, x1, ()) k pt1 (h0_au x0 x1 (0 : Int)))) := by kernel_rfl
theorem rd0_au (k : Nat) (x0 : Dm (.imm L_SesSes)) (x1 : Dm (.imm L_SesSes)) (h0 : Dn I) : r_au g_at p_at (x0, x1, ()) (k + 1) pt1 (h0_au x0 x1 h0) =
  (bif (decide (h0 < (List.length x0 : Int))) then (bif (bif (decide ((0 : Int) <= h0)) then (decide (h0 < (List.length x0 : Int))) else false) then (bif (bif (decide ((0 : Int) <= h0)) then (decide (h0 < (List.length x1 : Int))) else false) then (cl (p_at ((rdL (e := S_SesSes) x0 h0), ((rdL (e := S_SesSes) x1 h0), ()))) (g_at ((rdL (e := S_SesSes) x0 h0), ((rdL (e := S_SesSes) x1 h0), ()))) fun y0 => (bif (bif y0.1 then false else true) then (some (false, ())) else (r_au g_at p_at (x0, x1, ()) k pt1 (h0_au x0 x1 (w64 (h0 + (1 : Int))))))) else none) else none) else (some (true, ()))) := by kernel_rfl
theorem S_au (h_at : C_at p_at g_at) {pre : In_au -> Bool} {fn : In_au -> Out_au} (hev : ∀ x, pre x = true -> ∃ k, E_au g_at p_at k x = some (fn x)) : C_au pre fn := sound tysOk mixed (fn := Try.f120) rfl rfl rfl (.cons h_at .nil) _ hev
end
/-! av: leqStoStore -/
abbrev M_av : List Vm.Mode := [.imm S_StoStore, .imm S_StoStore]
abbrev R_av : List (RK × Sh) := [(.imm, .bool)]
abbrev In_av : Type := (insSh M_av).den
abbrev Out_av : Type := (outSh R_av M_av).den
abbrev C_av (pre : In_av -> Bool) (fn : In_av -> Out_av) : Prop := Sound Try.prog 49 ⟨M_av, R_av, pre, fn⟩
section
variable (g_ap : In_ap -> Out_ap) (p_ap : In_ap -> Bool) (g_ab : In_ab -> Out_ab) (p_ab : In_ab -> Bool) (g_as : In_as -> Out_as) (p_as : In_as -> Bool) (g_au : In_au -> Out_au) (p_au : In_au -> Bool)
abbrev X_av : Ctx := ctx tys 29 (conOf [(118, ⟨M_ap, R_ap, p_ap, g_ap⟩), (50, ⟨M_ab, R_ab, p_ab, g_ab⟩), (119, ⟨M_as, R_as, p_as, g_as⟩), (120, ⟨M_au, R_au, p_au, g_au⟩)]) (keepOf []) (fun _ => [])
noncomputable abbrev E_av (k : Nat) (x : In_av) : Option Out_av := evFn (X_av g_ap p_ap g_ab p_ab g_as p_as g_au p_au) Try.f49 R_av M_av k x
variable {g_ap p_ap g_ab p_ab g_as p_as g_au p_au}
theorem ev_av (k : Nat) (x0 : Dm (.imm S_StoStore)) (x1 : Dm (.imm S_StoStore)) : E_av g_ap p_ap g_ab p_ab g_as p_as g_au p_au k (x0, x1, ()) =
  (cl (p_ap (x0.1, (x1.1, ()))) (g_ap (x0.1, (x1.1, ()))) fun y0 => (bif (bif y0.1 then false else true) then (some (false, ())) else (cl (p_ab (x0.2.1, (x1.2.1, ()))) (g_ab (x0.2.1, (x1.2.1, ()))) fun y1 => (bif (bif y1.1 then false else true) then (some (false, ())) else (cl (p_as (x0.2.2.1, (x1.2.2.1, ()))) (g_as (x0.2.2.1, (x1.2.2.1, ()))) fun y2 => (bif (bif y2.1 then false else true) then (some (false, ())) else (cl (p_au (x0.2.2.2, (x1.2.2.2, ()))) (g_au (x0.2.2.2, (x1.2.2.2, ()))) fun y3 => (bif (bif y3.1 then false else true) then (some (false, ())) else (some (true, ())))))))))) := by kernel_rfl
theorem S_av (h_ap : C_ap p_ap g_ap) (h_ab : C_ab p_ab g_ab) (h_as : C_as p_as g_as) (h_au : C_au p_au g_au) {pre : In_av -> Bool} {fn : In_av -> Out_av} (hev : ∀ x, pre x = true -> ∃ k, E_av g_ap p_ap g_ab p_ab g_as p_as g_au p_au k x = some (fn x)) : C_av pre fn := sound tysOk mixed (fn := Try.f49) rfl rfl rfl (.cons h_ap (.cons h_ab (.cons h_as (.cons h_au .nil)))) _ hev
end
/-! aw: lmarkIntS -/
abbrev M_aw : List Vm.Mode := [.lend 3 I, .imm I]
abbrev R_aw : List (RK × Sh) := [(.imm, I)]
abbrev In_aw : Type := (insSh M_aw).den
abbrev Out_aw : Type := (outSh R_aw M_aw).den
abbrev C_aw (pre : In_aw -> Bool) (fn : In_aw -> Out_aw) : Prop := Sound Try.prog 51 ⟨M_aw, R_aw, pre, fn⟩
abbrev X_aw : Ctx := ctx tys 19 (conOf []) (keepOf [(pt0, (⟨[(0, .asis), (1, .asis), (5, .asis)], [], [5000]⟩ : Keep))]) (fun _ => [])
noncomputable abbrev E_aw (k : Nat) (x : In_aw) : Option Out_aw := evFn X_aw Try.f51 R_aw M_aw k x
def h0_aw (x0 : Dm (.lend 3 I)) (x1 : Dm (.imm I)) (h0 : Dn I) (h1 : Dn I) (h2 : (List (Dn I))) : St := mkS [(0, (AV.sref 5000 none [])), (1, (AV.val I h0)), (5, (AV.val I h1))] [(5000, (Ob.arr 3 I h2))]
noncomputable def r_aw (x : In_aw) (k : Nat) (p : List Bool) (s : St) : Option Out_aw := rounds X_aw Try.f51 R_aw M_aw x k p s
theorem ev_aw (k : Nat) (x0 : Dm (.lend 3 I)) (x1 : Dm (.imm I)) : E_aw k (x0, x1, ()) =
  (r_aw  (x0, x1, ()) k pt0 (h0_aw x0 x1 x1 (0 : Int) x0)) := by kernel_rfl
theorem rd0_aw (k : Nat) (x0 : Dm (.lend 3 I)) (x1 : Dm (.imm I)) (h0 : Dn I) (h1 : Dn I) (h2 : (List (Dn I))) : r_aw  (x0, x1, ()) (k + 1) pt0 (h0_aw x0 x1 h0 h1 h2) =
  (bif (decide (h1 < (List.length h2 : Int))) then (bif (bif (decide ((0 : Int) <= h1)) then (decide (h1 < (List.length h2 : Int))) else false) then (r_aw  (x0, x1, ()) k pt0 (h0_aw x0 x1 (w64 (h0 + (1 : Int))) (w64 (h1 + (1 : Int))) (List.set h2 (Int.toNat h1) h0))) else none) else (some (h0, (h2, ())))) := by kernel_rfl
theorem S_aw  {pre : In_aw -> Bool} {fn : In_aw -> Out_aw} (hev : ∀ x, pre x = true -> ∃ k, E_aw k x = some (fn x)) : C_aw pre fn := sound tysOk mixed (fn := Try.f51) rfl rfl rfl ConsOk.nil _ hev
/-! ax: lmarkSpcTestS -/
abbrev M_ax : List Vm.Mode := [.lend 26 S_SpcTest, .imm I]
abbrev R_ax : List (RK × Sh) := [(.imm, I)]
abbrev In_ax : Type := (insSh M_ax).den
abbrev Out_ax : Type := (outSh R_ax M_ax).den
abbrev C_ax (pre : In_ax -> Bool) (fn : In_ax -> Out_ax) : Prop := Sound Try.prog 37 ⟨M_ax, R_ax, pre, fn⟩
abbrev X_ax : Ctx := ctx tys 59 (conOf []) (keepOf [(pt0, (⟨[(0, .asis), (1, .asis), (5, .asis)], [], [5000]⟩ : Keep))]) (fun _ => [])
noncomputable abbrev E_ax (k : Nat) (x : In_ax) : Option Out_ax := evFn X_ax Try.f37 R_ax M_ax k x
def h0_ax (x0 : Dm (.lend 26 S_SpcTest)) (x1 : Dm (.imm I)) (h0 : Dn I) (h1 : Dn I) (h2 : (List (Dn S_SpcTest))) : St := mkS [(0, (AV.sref 5000 none [])), (1, (AV.val I h0)), (5, (AV.val I h1))] [(5000, (Ob.arr 26 S_SpcTest h2))]
noncomputable def r_ax (x : In_ax) (k : Nat) (p : List Bool) (s : St) : Option Out_ax := rounds X_ax Try.f37 R_ax M_ax x k p s
theorem ev_ax (k : Nat) (x0 : Dm (.lend 26 S_SpcTest)) (x1 : Dm (.imm I)) : E_ax k (x0, x1, ()) =
  (r_ax  (x0, x1, ()) k pt0 (h0_ax x0 x1 x1 (0 : Int) x0)) := by kernel_rfl
theorem rd0_ax (k : Nat) (x0 : Dm (.lend 26 S_SpcTest)) (x1 : Dm (.imm I)) (h0 : Dn I) (h1 : Dn I) (h2 : (List (Dn S_SpcTest))) : r_ax  (x0, x1, ()) (k + 1) pt0 (h0_ax x0 x1 h0 h1 h2) =
  (lt (rdL (e := S_SpcTest) h2 h1) fun t0 => (lt (rdL (e := S_SpcTest) (List.set h2 (Int.toNat h1) (h0, t0.2)) h1) fun t1 => (lt (List.set (List.set h2 (Int.toNat h1) (h0, t0.2)) (Int.toNat h1) (t1.1, (((w64 (h0 + (1 : Int))), t1.2.1.2), t1.2.2))) fun t2 => (lt (rdL (e := S_SpcTest) t2 h1) fun t3 => (lt (w64 ((w64 (h0 + (1 : Int))) + (1 : Int))) fun t4 => (lt (List.set t2 (Int.toNat h1) (t3.1, ((t3.2.1.1, t4), t3.2.2))) fun t5 => (lt (rdL (e := S_SpcTest) t5 h1) fun t6 => (lt (List.set t5 (Int.toNat h1) (t6.1, (t6.2.1, (((w64 (t4 + (1 : Int))), t6.2.2.1.2), t6.2.2.2)))) fun t7 => (lt (rdL (e := S_SpcTest) t7 h1) fun t8 => (lt (w64 ((w64 (t4 + (1 : Int))) + (1 : Int))) fun t9 => (lt (List.set t7 (Int.toNat h1) (t8.1, (t8.2.1, ((t8.2.2.1.1, t9), t8.2.2.2)))) fun t10 => (lt (rdL (e := S_SpcTest) t10 h1) fun t12 => (bif (decide (h1 < (List.length h2 : Int))) then (bif (bif (decide ((0 : Int) <= h1)) then (decide (h1 < (List.length h2 : Int))) else false) then (bif (bif (decide ((0 : Int) <= h1)) then (decide (h1 < (List.length (List.set h2 (Int.toNat h1) (h0, t0.2)) : Int))) else false) then (bif (bif (decide ((0 : Int) <= h1)) then (decide (h1 < (List.length t2 : Int))) else false) then (bif (bif (decide ((0 : Int) <= h1)) then (decide (h1 < (List.length t5 : Int))) else false) then (bif (bif (decide ((0 : Int) <= h1)) then (decide (h1 < (List.length t7 : Int))) else false) then (bif (bif (decide ((0 : Int) <= h1)) then (decide (h1 < (List.length t10 : Int))) else false) then (r_ax  (x0, x1, ()) k pt0 (h0_ax x0 x1 (w64 ((w64 (t9 + (1 : Int))) + (1 : Int))) (w64 (h1 + (1 : Int))) (List.set t10 (Int.toNat h1) (t12.1, (t12.2.1, (t12.2.2.1, (w64 (t9 + (1 : Int))))))))) else none) else none) else none) else none) else none) else none) else (some (h0, (h2, ())))))))))))))))) := by kernel_rfl
theorem S_ax  {pre : In_ax -> Bool} {fn : In_ax -> Out_ax} (hev : ∀ x, pre x = true -> ∃ k, E_ax k x = some (fn x)) : C_ax pre fn := sound tysOk mixed (fn := Try.f37) rfl rfl rfl ConsOk.nil _ hev
/-! ay: lmarkSpcSpecS -/
abbrev M_ay : List Vm.Mode := [.lend 202 S_SpcSpec, .imm I]
abbrev R_ay : List (RK × Sh) := [(.imm, I)]
abbrev In_ay : Type := (insSh M_ay).den
abbrev Out_ay : Type := (outSh R_ay M_ay).den
abbrev C_ay (pre : In_ay -> Bool) (fn : In_ay -> Out_ay) : Prop := Sound Try.prog 175 ⟨M_ay, R_ay, pre, fn⟩
section
variable (g_ax : In_ax -> Out_ax) (p_ax : In_ax -> Bool)
abbrev X_ay : Ctx := ctx tys 27 (conOf [(37, ⟨M_ax, R_ax, p_ax, g_ax⟩)]) (keepOf [(pt0, (⟨[(0, .asis), (1, .asis), (5, .asis)], [], [5000]⟩ : Keep))]) (fun _ => [])
noncomputable abbrev E_ay (k : Nat) (x : In_ay) : Option Out_ay := evFn (X_ay g_ax p_ax) Try.f175 R_ay M_ay k x
def h0_ay (x0 : Dm (.lend 202 S_SpcSpec)) (x1 : Dm (.imm I)) (h0 : Dn I) (h1 : Dn I) (h2 : (List (Dn S_SpcSpec))) : St := mkS [(0, (AV.sref 5000 none [])), (1, (AV.val I h0)), (5, (AV.val I h1))] [(5000, (Ob.arr 202 S_SpcSpec h2))]
noncomputable def r_ay (x : In_ay) (k : Nat) (p : List Bool) (s : St) : Option Out_ay := rounds (X_ay g_ax p_ax) Try.f175 R_ay M_ay x k p s
variable {g_ax p_ax}
theorem ev_ay (k : Nat) (x0 : Dm (.lend 202 S_SpcSpec)) (x1 : Dm (.imm I)) : E_ay g_ax p_ax k (x0, x1, ()) =
  (r_ay g_ax p_ax (x0, x1, ()) k pt0 (h0_ay x0 x1 x1 (0 : Int) x0)) := by kernel_rfl
theorem rd0_ay (k : Nat) (x0 : Dm (.lend 202 S_SpcSpec)) (x1 : Dm (.imm I)) (h0 : Dn I) (h1 : Dn I) (h2 : (List (Dn S_SpcSpec))) : r_ay g_ax p_ax (x0, x1, ()) (k + 1) pt0 (h0_ay x0 x1 h0 h1 h2) =
  (bif (decide (h1 < (List.length h2 : Int))) then (bif (bif (decide ((0 : Int) <= h1)) then (decide (h1 < (List.length h2 : Int))) else false) then (cl (p_ax ((rdL (e := S_SpcSpec) h2 h1).1, (h0, ()))) (g_ax ((rdL (e := S_SpcSpec) h2 h1).1, (h0, ()))) fun y0 => (bif (bif (decide ((0 : Int) <= h1)) then (decide (h1 < (List.length (List.set h2 (Int.toNat h1) (y0.2.1, (rdL (e := S_SpcSpec) h2 h1).2)) : Int))) else false) then (r_ay g_ax p_ax (x0, x1, ()) k pt0 (h0_ay x0 x1 (w64 (y0.1 + (1 : Int))) (w64 (h1 + (1 : Int))) (List.set (List.set h2 (Int.toNat h1) (y0.2.1, (rdL (e := S_SpcSpec) h2 h1).2)) (Int.toNat h1) ((rdL (e := S_SpcSpec) (List.set h2 (Int.toNat h1) (y0.2.1, (rdL (e := S_SpcSpec) h2 h1).2)) h1).1, y0.1)))) else none)) else none) else (some (h0, (h2, ())))) := by kernel_rfl
theorem S_ay (h_ax : C_ax p_ax g_ax) {pre : In_ay -> Bool} {fn : In_ay -> Out_ay} (hev : ∀ x, pre x = true -> ∃ k, E_ay g_ax p_ax k x = some (fn x)) : C_ay pre fn := sound tysOk mixed (fn := Try.f175) rfl rfl rfl (.cons h_ax .nil) _ hev
end
/-! az: lmarkDecDecS -/
abbrev M_az : List Vm.Mode := [.lend 24 S_DecDec, .imm I]
abbrev R_az : List (RK × Sh) := [(.imm, I)]
abbrev In_az : Type := (insSh M_az).den
abbrev Out_az : Type := (outSh R_az M_az).den
abbrev C_az (pre : In_az -> Bool) (fn : In_az -> Out_az) : Prop := Sound Try.prog 136 ⟨M_az, R_az, pre, fn⟩
abbrev X_az : Ctx := ctx tys 27 (conOf []) (keepOf [(pt0, (⟨[(0, .asis), (1, .asis), (5, .asis)], [], [5000]⟩ : Keep))]) (fun _ => [])
noncomputable abbrev E_az (k : Nat) (x : In_az) : Option Out_az := evFn X_az Try.f136 R_az M_az k x
def h0_az (x0 : Dm (.lend 24 S_DecDec)) (x1 : Dm (.imm I)) (h0 : Dn I) (h1 : Dn I) (h2 : (List (Dn S_DecDec))) : St := mkS [(0, (AV.sref 5000 none [])), (1, (AV.val I h0)), (5, (AV.val I h1))] [(5000, (Ob.arr 24 S_DecDec h2))]
noncomputable def r_az (x : In_az) (k : Nat) (p : List Bool) (s : St) : Option Out_az := rounds X_az Try.f136 R_az M_az x k p s
theorem ev_az (k : Nat) (x0 : Dm (.lend 24 S_DecDec)) (x1 : Dm (.imm I)) : E_az k (x0, x1, ()) =
  (r_az  (x0, x1, ()) k pt0 (h0_az x0 x1 x1 (0 : Int) x0)) := by kernel_rfl
theorem rd0_az (k : Nat) (x0 : Dm (.lend 24 S_DecDec)) (x1 : Dm (.imm I)) (h0 : Dn I) (h1 : Dn I) (h2 : (List (Dn S_DecDec))) : r_az  (x0, x1, ()) (k + 1) pt0 (h0_az x0 x1 h0 h1 h2) =
  (bif (decide (h1 < (List.length h2 : Int))) then (bif (bif (decide ((0 : Int) <= h1)) then (decide (h1 < (List.length h2 : Int))) else false) then (bif (bif (decide ((0 : Int) <= h1)) then (decide (h1 < (List.length (List.set h2 (Int.toNat h1) (h0, (rdL (e := S_DecDec) h2 h1).2)) : Int))) else false) then (r_az  (x0, x1, ()) k pt0 (h0_az x0 x1 (w64 ((w64 (h0 + (1 : Int))) + (1 : Int))) (w64 (h1 + (1 : Int))) (List.set (List.set h2 (Int.toNat h1) (h0, (rdL (e := S_DecDec) h2 h1).2)) (Int.toNat h1) ((rdL (e := S_DecDec) (List.set h2 (Int.toNat h1) (h0, (rdL (e := S_DecDec) h2 h1).2)) h1).1, (w64 (h0 + (1 : Int))))))) else none) else none) else (some (h0, (h2, ())))) := by kernel_rfl
theorem S_az  {pre : In_az -> Bool} {fn : In_az -> Out_az} (hev : ∀ x, pre x = true -> ∃ k, E_az k x = some (fn x)) : C_az pre fn := sound tysOk mixed (fn := Try.f136) rfl rfl rfl ConsOk.nil _ hev
/-! b0: lmarkTstTestS -/
abbrev M_b0 : List Vm.Mode := [.lend 29 S_TstTest, .imm I]
abbrev R_b0 : List (RK × Sh) := [(.imm, I)]
abbrev In_b0 : Type := (insSh M_b0).den
abbrev Out_b0 : Type := (outSh R_b0 M_b0).den
abbrev C_b0 (pre : In_b0 -> Bool) (fn : In_b0 -> Out_b0) : Prop := Sound Try.prog 98 ⟨M_b0, R_b0, pre, fn⟩
section
variable (g_az : In_az -> Out_az) (p_az : In_az -> Bool)
abbrev X_b0 : Ctx := ctx tys 102 (conOf [(136, ⟨M_az, R_az, p_az, g_az⟩)]) (keepOf [(pt0, (⟨[(0, .asis), (1, .asis), (5, .asis)], [], [5000]⟩ : Keep))]) (fun _ => [])
noncomputable abbrev E_b0 (k : Nat) (x : In_b0) : Option Out_b0 := evFn (X_b0 g_az p_az) Try.f98 R_b0 M_b0 k x
def h0_b0 (x0 : Dm (.lend 29 S_TstTest)) (x1 : Dm (.imm I)) (h0 : Dn I) (h1 : Dn I) (h2 : (List (Dn S_TstTest))) : St := mkS [(0, (AV.sref 5000 none [])), (1, (AV.val I h0)), (5, (AV.val I h1))] [(5000, (Ob.arr 29 S_TstTest h2))]
noncomputable def r_b0 (x : In_b0) (k : Nat) (p : List Bool) (s : St) : Option Out_b0 := rounds (X_b0 g_az p_az) Try.f98 R_b0 M_b0 x k p s
variable {g_az p_az}
theorem ev_b0 (k : Nat) (x0 : Dm (.lend 29 S_TstTest)) (x1 : Dm (.imm I)) : E_b0 g_az p_az k (x0, x1, ()) =
  (r_b0 g_az p_az (x0, x1, ()) k pt0 (h0_b0 x0 x1 x1 (0 : Int) x0)) := by kernel_rfl
theorem rd0_b0 (k : Nat) (x0 : Dm (.lend 29 S_TstTest)) (x1 : Dm (.imm I)) (h0 : Dn I) (h1 : Dn I) (h2 : (List (Dn S_TstTest))) : r_b0 g_az p_az (x0, x1, ()) (k + 1) pt0 (h0_b0 x0 x1 h0 h1 h2) =
  (lt (rdL (e := S_TstTest) h2 h1) fun t0 => (lt (List.set h2 (Int.toNat h1) ((h0, t0.1.2), t0.2)) fun s0 => (lt (rdL (e := S_TstTest) s0 h1) fun t1 => (lt (List.set s0 (Int.toNat h1) ((t1.1.1, (((w64 (h0 + (1 : Int))), t1.1.2.1.2), t1.1.2.2)), t1.2)) fun t2 => (lt (rdL (e := S_TstTest) t2 h1) fun t3 => (lt (w64 ((w64 (h0 + (1 : Int))) + (1 : Int))) fun t4 => (lt (List.set t2 (Int.toNat h1) ((t3.1.1, ((t3.1.2.1.1, t4), t3.1.2.2)), t3.2)) fun t5 => (lt (rdL (e := S_TstTest) t5 h1) fun t6 => (lt (List.set t5 (Int.toNat h1) ((t6.1.1, (t6.1.2.1, (((w64 (t4 + (1 : Int))), t6.1.2.2.1.2), t6.1.2.2.2))), t6.2)) fun t7 => (lt (rdL (e := S_TstTest) t7 h1) fun t8 => (lt (w64 ((w64 (t4 + (1 : Int))) + (1 : Int))) fun t9 => (lt (List.set t7 (Int.toNat h1) ((t8.1.1, (t8.1.2.1, ((t8.1.2.2.1.1, t9), t8.1.2.2.2))), t8.2)) fun t10 => (lt (rdL (e := S_TstTest) t10 h1) fun t11 => (lt (List.set t10 (Int.toNat h1) ((t11.1.1, (t11.1.2.1, (t11.1.2.2.1, (w64 (t9 + (1 : Int)))))), t11.2)) fun t12 => (lt (rdL (e := S_TstTest) t12 h1) fun t13 => (lt (w64 ((w64 (t9 + (1 : Int))) + (1 : Int))) fun t14 => (lt (List.set t12 (Int.toNat h1) (t13.1, (t14, t13.2.2))) fun s1 => (lt (rdL (e := S_TstTest) s1 h1) fun t15 => (lt (List.set s1 (Int.toNat h1) (t15.1, (t15.2.1, (((w64 (t14 + (1 : Int))), t15.2.2.1.2), t15.2.2.2)))) fun t16 => (lt (rdL (e := S_TstTest) t16 h1) fun t17 => (lt (w64 ((w64 (t14 + (1 : Int))) + (1 : Int))) fun t18 => (lt (List.set t16 (Int.toNat h1) (t17.1, (t17.2.1, ((t17.2.2.1.1, t18), t17.2.2.2)))) fun t19 => (lt (rdL (e := S_TstTest) t19 h1) fun t20 => (lt (List.set t19 (Int.toNat h1) (t20.1, (t20.2.1, (t20.2.2.1, ((w64 (t18 + (1 : Int))), t20.2.2.2.2))))) fun t21 => (lt (rdL (e := S_TstTest) t21 h1) fun t22 => (lt (w64 ((w64 (t18 + (1 : Int))) + (1 : Int))) fun t23 => (bif (decide (h1 < (List.length h2 : Int))) then (bif (bif (decide ((0 : Int) <= h1)) then (decide (h1 < (List.length h2 : Int))) else false) then (bif (bif (decide ((0 : Int) <= h1)) then (decide (h1 < (List.length s0 : Int))) else false) then (bif (bif (decide ((0 : Int) <= h1)) then (decide (h1 < (List.length t2 : Int))) else false) then (bif (bif (decide ((0 : Int) <= h1)) then (decide (h1 < (List.length t5 : Int))) else false) then (bif (bif (decide ((0 : Int) <= h1)) then (decide (h1 < (List.length t7 : Int))) else false) then (bif (bif (decide ((0 : Int) <= h1)) then (decide (h1 < (List.length t10 : Int))) else false) then (bif (bif (decide ((0 : Int) <= h1)) then (decide (h1 < (List.length t12 : Int))) else false) then (bif (bif (decide ((0 : Int) <= h1)) then (decide (h1 < (List.length s1 : Int))) else false) then (bif (bif (decide ((0 : Int) <= h1)) then (decide (h1 < (List.length t16 : Int))) else false) then (bif (bif (decide ((0 : Int) <= h1)) then (decide (h1 < (List.length t19 : Int))) else false) then (bif (bif (decide ((0 : Int) <= h1)) then (decide (h1 < (List.length t21 : Int))) else false) then (cl (p_az (t22.2.2.2.2, (t23, ()))) (g_az (t22.2.2.2.2, (t23, ()))) fun y0 => (r_b0 g_az p_az (x0, x1, ()) k pt0 (h0_b0 x0 x1 (y0.1) (w64 (h1 + (1 : Int))) (List.set t21 (Int.toNat h1) (t22.1, (t22.2.1, (t22.2.2.1, (t22.2.2.2.1, y0.2.1)))))))) else none) else none) else none) else none) else none) else none) else none) else none) else none) else none) else none) else (some (h0, (h2, ())))))))))))))))))))))))))))))) := by kernel_rfl
theorem S_b0 (h_az : C_az p_az g_az) {pre : In_b0 -> Bool} {fn : In_b0 -> Out_b0} (hev : ∀ x, pre x = true -> ∃ k, E_b0 g_az p_az k x = some (fn x)) : C_b0 pre fn := sound tysOk mixed (fn := Try.f98) rfl rfl rfl (.cons h_az .nil) _ hev
end
/-! b1: lmarkBatSigS -/
abbrev M_b1 : List Vm.Mode := [.lend 133 S_DayDay, .imm I]
abbrev R_b1 : List (RK × Sh) := [(.imm, I)]
abbrev In_b1 : Type := (insSh M_b1).den
abbrev Out_b1 : Type := (outSh R_b1 M_b1).den
abbrev C_b1 (pre : In_b1 -> Bool) (fn : In_b1 -> Out_b1) : Prop := Sound Try.prog 99 ⟨M_b1, R_b1, pre, fn⟩
abbrev X_b1 : Ctx := ctx tys 34 (conOf []) (keepOf [(pt0, (⟨[(0, .asis), (1, .asis), (5, .asis)], [], [5000]⟩ : Keep))]) (fun _ => [])
noncomputable abbrev E_b1 (k : Nat) (x : In_b1) : Option Out_b1 := evFn X_b1 Try.f99 R_b1 M_b1 k x
def h0_b1 (x0 : Dm (.lend 133 S_DayDay)) (x1 : Dm (.imm I)) (h0 : Dn I) (h1 : Dn I) (h2 : (List (Dn S_DayDay))) : St := mkS [(0, (AV.sref 5000 none [])), (1, (AV.val I h0)), (5, (AV.val I h1))] [(5000, (Ob.arr 133 S_DayDay h2))]
noncomputable def r_b1 (x : In_b1) (k : Nat) (p : List Bool) (s : St) : Option Out_b1 := rounds X_b1 Try.f99 R_b1 M_b1 x k p s
theorem ev_b1 (k : Nat) (x0 : Dm (.lend 133 S_DayDay)) (x1 : Dm (.imm I)) : E_b1 k (x0, x1, ()) =
  (r_b1  (x0, x1, ()) k pt0 (h0_b1 x0 x1 x1 (0 : Int) x0)) := by kernel_rfl
theorem rd0_b1 (k : Nat) (x0 : Dm (.lend 133 S_DayDay)) (x1 : Dm (.imm I)) (h0 : Dn I) (h1 : Dn I) (h2 : (List (Dn S_DayDay))) : r_b1  (x0, x1, ()) (k + 1) pt0 (h0_b1 x0 x1 h0 h1 h2) =
  (lt (rdL (e := S_DayDay) h2 h1) fun s1 => (lt (List.set h2 (Int.toNat h1) (h0, s1.2)) fun s2 => (lt (w64 (h0 + (1 : Int))) fun s0 => (bif (decide (h1 < (List.length h2 : Int))) then (bif (bif (decide ((0 : Int) <= h1)) then (decide (h1 < (List.length h2 : Int))) else false) then (bif (bif (decide ((0 : Int) <= h1)) then (decide (h1 < (List.length s2 : Int))) else false) then (bif (bif (decide ((0 : Int) <= h1)) then (decide (h1 < (List.length (List.set s2 (Int.toNat h1) ((rdL (e := S_DayDay) s2 h1).1, (s0, (rdL (e := S_DayDay) s2 h1).2.2))) : Int))) else false) then (r_b1  (x0, x1, ()) k pt0 (h0_b1 x0 x1 (w64 ((w64 (s0 + (1 : Int))) + (1 : Int))) (w64 (h1 + (1 : Int))) (List.set (List.set s2 (Int.toNat h1) ((rdL (e := S_DayDay) s2 h1).1, (s0, (rdL (e := S_DayDay) s2 h1).2.2))) (Int.toNat h1) ((rdL (e := S_DayDay) (List.set s2 (Int.toNat h1) ((rdL (e := S_DayDay) s2 h1).1, (s0, (rdL (e := S_DayDay) s2 h1).2.2))) h1).1, ((rdL (e := S_DayDay) (List.set s2 (Int.toNat h1) ((rdL (e := S_DayDay) s2 h1).1, (s0, (rdL (e := S_DayDay) s2 h1).2.2))) h1).2.1, (w64 (s0 + (1 : Int)))))))) else none) else none) else none) else (some (h0, (h2, ()))))))) := by kernel_rfl
theorem S_b1  {pre : In_b1 -> Bool} {fn : In_b1 -> Out_b1} (hev : ∀ x, pre x = true -> ∃ k, E_b1 k x = some (fn x)) : C_b1 pre fn := sound tysOk mixed (fn := Try.f99) rfl rfl rfl ConsOk.nil _ hev
/-! b2: lmarkBoolS -/
abbrev M_b2 : List Vm.Mode := [.lend 4 .bool, .imm I]
abbrev R_b2 : List (RK × Sh) := [(.imm, I)]
abbrev In_b2 : Type := (insSh M_b2).den
abbrev Out_b2 : Type := (outSh R_b2 M_b2).den
abbrev C_b2 (pre : In_b2 -> Bool) (fn : In_b2 -> Out_b2) : Prop := Sound Try.prog 100 ⟨M_b2, R_b2, pre, fn⟩
abbrev X_b2 : Ctx := ctx tys 21 (conOf []) (keepOf [(pt0, (⟨[(0, .asis), (1, .asis), (5, .asis)], [], [5000]⟩ : Keep))]) (fun _ => [])
noncomputable abbrev E_b2 (k : Nat) (x : In_b2) : Option Out_b2 := evFn X_b2 Try.f100 R_b2 M_b2 k x
def h0_b2 (x0 : Dm (.lend 4 .bool)) (x1 : Dm (.imm I)) (h0 : Dn I) (h1 : Dn I) (h2 : (List (Dn Sh.bool))) : St := mkS [(0, (AV.sref 5000 none [])), (1, (AV.val I h0)), (5, (AV.val I h1))] [(5000, (Ob.arr 4 Sh.bool h2))]
noncomputable def r_b2 (x : In_b2) (k : Nat) (p : List Bool) (s : St) : Option Out_b2 := rounds X_b2 Try.f100 R_b2 M_b2 x k p s
theorem ev_b2 (k : Nat) (x0 : Dm (.lend 4 .bool)) (x1 : Dm (.imm I)) : E_b2 k (x0, x1, ()) =
  (r_b2  (x0, x1, ()) k pt0 (h0_b2 x0 x1 x1 (0 : Int) x0)) := by kernel_rfl
theorem rd0_b2 (k : Nat) (x0 : Dm (.lend 4 .bool)) (x1 : Dm (.imm I)) (h0 : Dn I) (h1 : Dn I) (h2 : (List (Dn Sh.bool))) : r_b2  (x0, x1, ()) (k + 1) pt0 (h0_b2 x0 x1 h0 h1 h2) =
  (bif (decide (h1 < (List.length h2 : Int))) then (bif (bif (decide ((3 : Int) = (0 : Int))) then false else true) then (bif (bif (decide ((0 : Int) <= h1)) then (decide (h1 < (List.length h2 : Int))) else false) then (r_b2  (x0, x1, ()) k pt0 (h0_b2 x0 x1 (w64 (h0 + (1 : Int))) (w64 (h1 + (1 : Int))) (List.set h2 (Int.toNat h1) (decide ((Int.tmod h0 (3 : Int)) = (0 : Int)))))) else none) else none) else (some (h0, (h2, ())))) := by kernel_rfl
theorem S_b2  {pre : In_b2 -> Bool} {fn : In_b2 -> Out_b2} (hev : ∀ x, pre x = true -> ∃ k, E_b2 k x = some (fn x)) : C_b2 pre fn := sound tysOk mixed (fn := Try.f100) rfl rfl rfl ConsOk.nil _ hev
/-! b3: lmarkBatBatchS -/
abbrev M_b3 : List Vm.Mode := [.lend 53 S_BatBatch, .imm I]
abbrev R_b3 : List (RK × Sh) := [(.imm, I)]
abbrev In_b3 : Type := (insSh M_b3).den
abbrev Out_b3 : Type := (outSh R_b3 M_b3).den
abbrev C_b3 (pre : In_b3 -> Bool) (fn : In_b3 -> Out_b3) : Prop := Sound Try.prog 176 ⟨M_b3, R_b3, pre, fn⟩
section
variable (g_b0 : In_b0 -> Out_b0) (p_b0 : In_b0 -> Bool) (g_b1 : In_b1 -> Out_b1) (p_b1 : In_b1 -> Bool) (g_b2 : In_b2 -> Out_b2) (p_b2 : In_b2 -> Bool)
abbrev X_b3 : Ctx := ctx tys 55 (conOf [(98, ⟨M_b0, R_b0, p_b0, g_b0⟩), (99, ⟨M_b1, R_b1, p_b1, g_b1⟩), (100, ⟨M_b2, R_b2, p_b2, g_b2⟩)]) (keepOf [(pt0, (⟨[(0, .asis), (1, .asis), (5, .asis)], [], [5000]⟩ : Keep))]) (fun _ => [])
noncomputable abbrev E_b3 (k : Nat) (x : In_b3) : Option Out_b3 := evFn (X_b3 g_b0 p_b0 g_b1 p_b1 g_b2 p_b2) Try.f176 R_b3 M_b3 k x
def h0_b3 (x0 : Dm (.lend 53 S_BatBatch)) (x1 : Dm (.imm I)) (h0 : Dn I) (h1 : Dn I) (h2 : (List (Dn S_BatBatch))) : St := mkS [(0, (AV.sref 5000 none [])), (1, (AV.val I h0)), (5, (AV.val I h1))] [(5000, (Ob.arr 53 S_BatBatch h2))]
noncomputable def r_b3 (x : In_b3) (k : Nat) (p : List Bool) (s : St) : Option Out_b3 := rounds (X_b3 g_b0 p_b0 g_b1 p_b1 g_b2 p_b2) Try.f176 R_b3 M_b3 x k p s
variable {g_b0 p_b0 g_b1 p_b1 g_b2 p_b2}
theorem ev_b3 (k : Nat) (x0 : Dm (.lend 53 S_BatBatch)) (x1 : Dm (.imm I)) : E_b3 g_b0 p_b0 g_b1 p_b1 g_b2 p_b2 k (x0, x1, ()) =
  (r_b3 g_b0 p_b0 g_b1 p_b1 g_b2 p_b2 (x0, x1, ()) k pt0 (h0_b3 x0 x1 x1 (0 : Int) x0)) := by kernel_rfl
theorem rd0_b3 (k : Nat) (x0 : Dm (.lend 53 S_BatBatch)) (x1 : Dm (.imm I)) (h0 : Dn I) (h1 : Dn I) (h2 : (List (Dn S_BatBatch))) : r_b3 g_b0 p_b0 g_b1 p_b1 g_b2 p_b2 (x0, x1, ()) (k + 1) pt0 (h0_b3 x0 x1 h0 h1 h2) =
  (lt (rdL (e := S_BatBatch) h2 h1) fun t0 => (lt (rdL (e := S_BatBatch) (List.set h2 (Int.toNat h1) (h0, t0.2)) h1) fun t1 => (lt (List.set (List.set h2 (Int.toNat h1) (h0, t0.2)) (Int.toNat h1) (t1.1, ((w64 (h0 + (1 : Int))), t1.2.2))) fun t2 => (lt (rdL (e := S_BatBatch) t2 h1) fun t3 => (lt (w64 ((w64 (h0 + (1 : Int))) + (1 : Int))) fun t4 => (lt (List.set t2 (Int.toNat h1) (t3.1, (t3.2.1, ((g_b0 (t3.2.2.1, (t4, ()))).2.1, t3.2.2.2)))) fun t5 => (lt (rdL (e := S_BatBatch) t5 h1) fun t6 => (lt (List.set t5 (Int.toNat h1) (t6.1, (t6.2.1, (t6.2.2.1, ((g_b0 (t3.2.2.1, (t4, ()))).1, t6.2.2.2.2))))) fun t7 => (lt (rdL (e := S_BatBatch) t7 h1) fun t8 => (lt (w64 ((g_b0 (t3.2.2.1, (t4, ()))).1 + (1 : Int))) fun t9 => (lt (List.set t7 (Int.toNat h1) (t8.1, (t8.2.1, (t8.2.2.1, (t8.2.2.2.1, ((g_b1 (t8.2.2.2.2.1, (t9, ()))).2.1, t8.2.2.2.2.2)))))) fun t10 => (lt (rdL (e := S_BatBatch) t10 h1) fun t11 => (bif (decide (h1 < (List.length h2 : Int))) then (bif (bif (decide ((0 : Int) <= h1)) then (decide (h1 < (List.length h2 : Int))) else false) then (bif (bif (decide ((0 : Int) <= h1)) then (decide (h1 < (List.length (List.set h2 (Int.toNat h1) (h0, t0.2)) : Int))) else false) then (bif (bif (decide ((0 : Int) <= h1)) then (decide (h1 < (List.length t2 : Int))) else false) then (bif (p_b0 (t3.2.2.1, (t4, ()))) then (bif (bif (decide ((0 : Int) <= h1)) then (decide (h1 < (List.length t5 : Int))) else false) then (bif (bif (decide ((0 : Int) <= h1)) then (decide (h1 < (List.length t7 : Int))) else false) then (cl (p_b1 (t8.2.2.2.2.1, (t9, ()))) (g_b1 (t8.2.2.2.2.1, (t9, ()))) fun y0 => (bif (bif (decide ((0 : Int) <= h1)) then (decide (h1 < (List.length t10 : Int))) else false) then (cl (p_b2 (t11.2.2.2.2.2, (y0.1, ()))) (g_b2 (t11.2.2.2.2.2, (y0.1, ()))) fun y1 => (r_b3 g_b0 p_b0 g_b1 p_b1 g_b2 p_b2 (x0, x1, ()) k pt0 (h0_b3 x0 x1 (y1.1) (w64 (h1 + (1 : Int))) (List.set t10 (Int.toNat h1) (t11.1, (t11.2.1, (t11.2.2.1, (t11.2.2.2.1, (t11.2.2.2.2.1, y1.2.1))))))))) else none)) else none) else none) else none) else none) else none) else none) else (some (h0, (h2, ())))))))))))))))) := by kernel_rfl
theorem S_b3 (h_b0 : C_b0 p_b0 g_b0) (h_b1 : C_b1 p_b1 g_b1) (h_b2 : C_b2 p_b2 g_b2) {pre : In_b3 -> Bool} {fn : In_b3 -> Out_b3} (hev : ∀ x, pre x = true -> ∃ k, E_b3 g_b0 p_b0 g_b1 p_b1 g_b2 p_b2 k x = some (fn x)) : C_b3 pre fn := sound tysOk mixed (fn := Try.f176) rfl rfl rfl (.cons h_b0 (.cons h_b1 (.cons h_b2 .nil))) _ hev
end
/-! b4: lmarkHouHouse -/
abbrev M_b4 : List Vm.Mode := [.loan S_HouHouse, .imm I]
abbrev R_b4 : List (RK × Sh) := [(.imm, I)]
abbrev In_b4 : Type := (insSh M_b4).den
abbrev Out_b4 : Type := (outSh R_b4 M_b4).den
abbrev C_b4 (pre : In_b4 -> Bool) (fn : In_b4 -> Out_b4) : Prop := Sound Try.prog 121 ⟨M_b4, R_b4, pre, fn⟩
section
variable (g_aw : In_aw -> Out_aw) (p_aw : In_aw -> Bool) (g_ay : In_ay -> Out_ay) (p_ay : In_ay -> Bool) (g_b3 : In_b3 -> Out_b3) (p_b3 : In_b3 -> Bool)
abbrev X_b4 : Ctx := ctx tys 18 (conOf [(51, ⟨M_aw, R_aw, p_aw, g_aw⟩), (175, ⟨M_ay, R_ay, p_ay, g_ay⟩), (176, ⟨M_b3, R_b3, p_b3, g_b3⟩)]) (keepOf []) (fun _ => [])
noncomputable abbrev E_b4 (k : Nat) (x : In_b4) : Option Out_b4 := evFn (X_b4 g_aw p_aw g_ay p_ay g_b3 p_b3) Try.f121 R_b4 M_b4 k x
variable {g_aw p_aw g_ay p_ay g_b3 p_b3}
theorem ev_b4 (k : Nat) (x0 : Dm (.loan S_HouHouse)) (x1 : Dm (.imm I)) : E_b4 g_aw p_aw g_ay p_ay g_b3 p_b3 k (x0, x1, ()) =
  (cl (p_aw (x0.1, (x1, ()))) (g_aw (x0.1, (x1, ()))) fun y0 => (cl (p_ay (x0.2.1, (y0.1, ()))) (g_ay (x0.2.1, (y0.1, ()))) fun y1 => (cl (p_b3 (x0.2.2, (y1.1, ()))) (g_b3 (x0.2.2, (y1.1, ()))) fun y2 => (some (y2.1, ((y0.2.1, (y1.2.1, y2.2.1)), ())))))) := by kernel_rfl
theorem S_b4 (h_aw : C_aw p_aw g_aw) (h_ay : C_ay p_ay g_ay) (h_b3 : C_b3 p_b3 g_b3) {pre : In_b4 -> Bool} {fn : In_b4 -> Out_b4} (hev : ∀ x, pre x = true -> ∃ k, E_b4 g_aw p_aw g_ay p_ay g_b3 p_b3 k x = some (fn x)) : C_b4 pre fn := sound tysOk mixed (fn := Try.f121) rfl rfl rfl (.cons h_aw (.cons h_ay (.cons h_b3 .nil))) _ hev
end
/-! b5: lmarkAudLineS -/
abbrev M_b5 : List Vm.Mode := [.lend 178 S_AudLine, .imm I]
abbrev R_b5 : List (RK × Sh) := [(.imm, I)]
abbrev In_b5 : Type := (insSh M_b5).den
abbrev Out_b5 : Type := (outSh R_b5 M_b5).den
abbrev C_b5 (pre : In_b5 -> Bool) (fn : In_b5 -> Out_b5) : Prop := Sound Try.prog 122 ⟨M_b5, R_b5, pre, fn⟩
section
variable (g_ax : In_ax -> Out_ax) (p_ax : In_ax -> Bool)
abbrev X_b5 : Ctx := ctx tys 86 (conOf [(37, ⟨M_ax, R_ax, p_ax, g_ax⟩)]) (keepOf [(pt0, (⟨[(0, .asis), (1, .asis), (5, .asis)], [], [5000]⟩ : Keep))]) (fun _ => [])
noncomputable abbrev E_b5 (k : Nat) (x : In_b5) : Option Out_b5 := evFn (X_b5 g_ax p_ax) Try.f122 R_b5 M_b5 k x
def h0_b5 (x0 : Dm (.lend 178 S_AudLine)) (x1 : Dm (.imm I)) (h0 : Dn I) (h1 : Dn I) (h2 : (List (Dn S_AudLine))) : St := mkS [(0, (AV.sref 5000 none [])), (1, (AV.val I h0)), (5, (AV.val I h1))] [(5000, (Ob.arr 178 S_AudLine h2))]
noncomputable def r_b5 (x : In_b5) (k : Nat) (p : List Bool) (s : St) : Option Out_b5 := rounds (X_b5 g_ax p_ax) Try.f122 R_b5 M_b5 x k p s
variable {g_ax p_ax}
theorem ev_b5 (k : Nat) (x0 : Dm (.lend 178 S_AudLine)) (x1 : Dm (.imm I)) : E_b5 g_ax p_ax k (x0, x1, ()) =
  (r_b5 g_ax p_ax (x0, x1, ()) k pt0 (h0_b5 x0 x1 x1 (0 : Int) x0)) := by kernel_rfl
theorem rd0_b5 (k : Nat) (x0 : Dm (.lend 178 S_AudLine)) (x1 : Dm (.imm I)) (h0 : Dn I) (h1 : Dn I) (h2 : (List (Dn S_AudLine))) : r_b5 g_ax p_ax (x0, x1, ()) (k + 1) pt0 (h0_b5 x0 x1 h0 h1 h2) =
  (lt (rdL (e := S_AudLine) h2 h1) fun t0 => (lt (List.set h2 (Int.toNat h1) ((h0, t0.1.2), t0.2)) fun s1 => (lt (rdL (e := S_AudLine) s1 h1) fun t1 => (lt (List.set s1 (Int.toNat h1) ((t1.1.1, ((w64 (h0 + (1 : Int))), t1.1.2.2)), t1.2)) fun t2 => (lt (rdL (e := S_AudLine) t2 h1) fun t3 => (lt (w64 ((w64 (h0 + (1 : Int))) + (1 : Int))) fun t4 => (lt (List.set t2 (Int.toNat h1) ((t3.1.1, (t3.1.2.1, (t4, t3.1.2.2.2))), t3.2)) fun t5 => (lt (rdL (e := S_AudLine) t5 h1) fun t6 => (lt (List.set t5 (Int.toNat h1) ((t6.1.1, (t6.1.2.1, (t6.1.2.2.1, ((w64 (t4 + (1 : Int))), t6.1.2.2.2.2)))), t6.2)) fun t7 => (lt (rdL (e := S_AudLine) t7 h1) fun t8 => (lt (w64 ((w64 (t4 + (1 : Int))) + (1 : Int))) fun t9 => (lt (List.set t7 (Int.toNat h1) ((t8.1.1, (t8.1.2.1, (t8.1.2.2.1, (t8.1.2.2.2.1, (t9, t8.1.2.2.2.2.2))))), t8.2)) fun t10 => (lt (rdL (e := S_AudLine) t10 h1) fun t11 => (lt (List.set t10 (Int.toNat h1) ((t11.1.1, (t11.1.2.1, (t11.1.2.2.1, (t11.1.2.2.2.1, (t11.1.2.2.2.2.1, (((w64 (t9 + (1 : Int))), t11.1.2.2.2.2.2.1.2), t11.1.2.2.2.2.2.2)))))), t11.2)) fun t12 => (lt (rdL (e := S_AudLine) t12 h1) fun t13 => (lt (w64 ((w64 (t9 + (1 : Int))) + (1 : Int))) fun t14 => (lt (w64 (t14 + (1 : Int))) fun s0 => (lt (List.set t12 (Int.toNat h1) ((t13.1.1, (t13.1.2.1, (t13.1.2.2.1, (t13.1.2.2.2.1, (t13.1.2.2.2.2.1, ((t13.1.2.2.2.2.2.1.1, t14), t13.1.2.2.2.2.2.2)))))), t13.2)) fun t15 => (lt (rdL (e := S_AudLine) t15 h1) fun t16 => (lt (List.set t15 (Int.toNat h1) ((t16.1.1, (t16.1.2.1, (t16.1.2.2.1, (t16.1.2.2.2.1, (t16.1.2.2.2.2.1, (t16.1.2.2.2.2.2.1, (g_ax (t16.1.2.2.2.2.2.2, (s0, ()))).2.1)))))), t16.2)) fun t17 => (bif (decide (h1 < (List.length h2 : Int))) then (bif (bif (decide ((0 : Int) <= h1)) then (decide (h1 < (List.length h2 : Int))) else false) then (bif (bif (decide ((0 : Int) <= h1)) then (decide (h1 < (List.length s1 : Int))) else false) then (bif (bif (decide ((0 : Int) <= h1)) then (decide (h1 < (List.length t2 : Int))) else false) then (bif (bif (decide ((0 : Int) <= h1)) then (decide (h1 < (List.length t5 : Int))) else false) then (bif (bif (decide ((0 : Int) <= h1)) then (decide (h1 < (List.length t7 : Int))) else false) then (bif (bif (decide ((0 : Int) <= h1)) then (decide (h1 < (List.length t10 : Int))) else false) then (bif (bif (decide ((0 : Int) <= h1)) then (decide (h1 < (List.length t12 : Int))) else false) then (bif (bif (decide ((0 : Int) <= h1)) then (decide (h1 < (List.length t15 : Int))) else false) then (cl (p_ax (t16.1.2.2.2.2.2.2, (s0, ()))) (g_ax (t16.1.2.2.2.2.2.2, (s0, ()))) fun y0 => (bif (bif (decide ((0 : Int) <= h1)) then (decide (h1 < (List.length t17 : Int))) else false) then (r_b5 g_ax p_ax (x0, x1, ()) k pt0 (h0_b5 x0 x1 (w64 (y0.1 + (1 : Int))) (w64 (h1 + (1 : Int))) (List.set t17 (Int.toNat h1) ((rdL (e := S_AudLine) t17 h1).1, y0.1)))) else none)) else none) else none) else none) else none) else none) else none) else none) else none) else (some (h0, (h2, ())))))))))))))))))))))))) := by kernel_rfl
theorem S_b5 (h_ax : C_ax p_ax g_ax) {pre : In_b5 -> Bool} {fn : In_b5 -> Out_b5} (hev : ∀ x, pre x = true -> ∃ k, E_b5 g_ax p_ax k x = some (fn x)) : C_b5 pre fn := sound tysOk mixed (fn := Try.f122) rfl rfl rfl (.cons h_ax .nil) _ hev
end
/-! b6: lmarkSesSesS -/
abbrev M_b6 : List Vm.Mode := [.lend 181 S_SesSes, .imm I]
abbrev R_b6 : List (RK × Sh) := [(.imm, I)]
abbrev In_b6 : Type := (insSh M_b6).den
abbrev Out_b6 : Type := (outSh R_b6 M_b6).den
abbrev C_b6 (pre : In_b6 -> Bool) (fn : In_b6 -> Out_b6) : Prop := Sound Try.prog 123 ⟨M_b6, R_b6, pre, fn⟩
section
variable (g_ax : In_ax -> Out_ax) (p_ax : In_ax -> Bool)
abbrev X_b6 : Ctx := ctx tys 102 (conOf [(37, ⟨M_ax, R_ax, p_ax, g_ax⟩)]) (keepOf [(pt0, (⟨[(0, .asis), (1, .asis), (5, .asis)], [], [5000]⟩ : Keep))]) (fun _ => [])
noncomputable abbrev E_b6 (k : Nat) (x : In_b6) : Option Out_b6 := evFn (X_b6 g_ax p_ax) Try.f123 R_b6 M_b6 k x
def h0_b6 (x0 : Dm (.lend 181 S_SesSes)) (x1 : Dm (.imm I)) (h0 : Dn I) (h1 : Dn I) (h2 : (List (Dn S_SesSes))) : St := mkS [(0, (AV.sref 5000 none [])), (1, (AV.val I h0)), (5, (AV.val I h1))] [(5000, (Ob.arr 181 S_SesSes h2))]
noncomputable def r_b6 (x : In_b6) (k : Nat) (p : List Bool) (s : St) : Option Out_b6 := rounds (X_b6 g_ax p_ax) Try.f123 R_b6 M_b6 x k p s
variable {g_ax p_ax}
theorem ev_b6 (k : Nat) (x0 : Dm (.lend 181 S_SesSes)) (x1 : Dm (.imm I)) : E_b6 g_ax p_ax k (x0, x1, ()) =
  (r_b6 g_ax p_ax (x0, x1, ()) k pt0 (h0_b6 x0 x1 x1 (0 : Int) x0)) := by kernel_rfl
theorem rd0_b6 (k : Nat) (x0 : Dm (.lend 181 S_SesSes)) (x1 : Dm (.imm I)) (h0 : Dn I) (h1 : Dn I) (h2 : (List (Dn S_SesSes))) : r_b6 g_ax p_ax (x0, x1, ()) (k + 1) pt0 (h0_b6 x0 x1 h0 h1 h2) =
  (lt (List.set h2 (Int.toNat h1) ((decide ((Int.tmod h0 (3 : Int)) = (0 : Int))), (rdL (e := S_SesSes) h2 h1).2)) fun t1 => (lt (rdL (e := S_SesSes) t1 h1) fun t2 => (lt (List.set t1 (Int.toNat h1) (t2.1, (((w64 (h0 + (1 : Int))), t2.2.1.2), t2.2.2))) fun t3 => (lt (rdL (e := S_SesSes) t3 h1) fun t4 => (lt (w64 ((w64 (h0 + (1 : Int))) + (1 : Int))) fun t5 => (lt (List.set t3 (Int.toNat h1) (t4.1, ((t4.2.1.1, (t5, t4.2.1.2.2)), t4.2.2))) fun t6 => (lt (rdL (e := S_SesSes) t6 h1) fun t7 => (lt (List.set t6 (Int.toNat h1) (t7.1, ((t7.2.1.1, (t7.2.1.2.1, ((w64 (t5 + (1 : Int))), t7.2.1.2.2.2))), t7.2.2))) fun t8 => (lt (rdL (e := S_SesSes) t8 h1) fun t9 => (lt (w64 ((w64 (t5 + (1 : Int))) + (1 : Int))) fun t10 => (lt (List.set t8 (Int.toNat h1) (t9.1, ((t9.2.1.1, (t9.2.1.2.1, (t9.2.1.2.2.1, (t10, t9.2.1.2.2.2.2)))), t9.2.2))) fun t11 => (lt (rdL (e := S_SesSes) t11 h1) fun t12 => (lt (List.set t11 (Int.toNat h1) (t12.1, ((t12.2.1.1, (t12.2.1.2.1, (t12.2.1.2.2.1, (t12.2.1.2.2.2.1, ((w64 (t10 + (1 : Int))), t12.2.1.2.2.2.2.2))))), t12.2.2))) fun t13 => (lt (rdL (e := S_SesSes) t13 h1) fun t14 => (lt (w64 ((w64 (t10 + (1 : Int))) + (1 : Int))) fun t15 => (lt (List.set t13 (Int.toNat h1) (t14.1, ((t14.2.1.1, (t14.2.1.2.1, (t14.2.1.2.2.1, (t14.2.1.2.2.2.1, (t14.2.1.2.2.2.2.1, ((t15, t14.2.1.2.2.2.2.2.1.2), t14.2.1.2.2.2.2.2.2)))))), t14.2.2))) fun t16 => (lt (rdL (e := S_SesSes) t16 h1) fun t17 => (lt (List.set t16 (Int.toNat h1) (t17.1, ((t17.2.1.1, (t17.2.1.2.1, (t17.2.1.2.2.1, (t17.2.1.2.2.2.1, (t17.2.1.2.2.2.2.1, ((t17.2.1.2.2.2.2.2.1.1, (w64 (t15 + (1 : Int)))), t17.2.1.2.2.2.2.2.2)))))), t17.2.2))) fun t18 => (lt (rdL (e := S_SesSes) t18 h1) fun t19 => (lt (w64 ((w64 (t15 + (1 : Int))) + (1 : Int))) fun t20 => (lt (g_ax (t19.2.1.2.2.2.2.2.2, (t20, ()))) fun s0 => (lt (List.set t18 (Int.toNat h1) (t19.1, ((t19.2.1.1, (t19.2.1.2.1, (t19.2.1.2.2.1, (t19.2.1.2.2.2.1, (t19.2.1.2.2.2.2.1, (t19.2.1.2.2.2.2.2.1, s0.2.1)))))), t19.2.2))) fun t21 => (lt (rdL (e := S_SesSes) t21 h1) fun t22 => (lt (List.set t21 (Int.toNat h1) (t22.1, (t22.2.1, (s0.1, t22.2.2.2)))) fun t23 => (lt (s0.1 + (1 : Int)) fun t24 => (lt (rdL (e := S_SesSes) t23 h1) fun t26 => (bif (decide (h1 < (List.length h2 : Int))) then (bif (bif (decide ((3 : Int) = (0 : Int))) then false else true) then (bif (bif (decide ((0 : Int) <= h1)) then (decide (h1 < (List.length h2 : Int))) else false) then (bif (bif (decide ((0 : Int) <= h1)) then (decide (h1 < (List.length t1 : Int))) else false) then (bif (bif (decide ((0 : Int) <= h1)) then (decide (h1 < (List.length t3 : Int))) else false) then (bif (bif (decide ((0 : Int) <= h1)) then (decide (h1 < (List.length t6 : Int))) else false) then (bif (bif (decide ((0 : Int) <= h1)) then (decide (h1 < (List.length t8 : Int))) else false) then (bif (bif (decide ((0 : Int) <= h1)) then (decide (h1 < (List.length t11 : Int))) else false) then (bif (bif (decide ((0 : Int) <= h1)) then (decide (h1 < (List.length t13 : Int))) else false) then (bif (bif (decide ((0 : Int) <= h1)) then (decide (h1 < (List.length t16 : Int))) else false) then (bif (bif (decide ((0 : Int) <= h1)) then (decide (h1 < (List.length t18 : Int))) else false) then (bif (p_ax (t19.2.1.2.2.2.2.2.2, (t20, ()))) then (bif (bif (decide ((0 : Int) <= h1)) then (decide (h1 < (List.length t21 : Int))) else false) then (bif (bif (decide ((0 : Int) <= h1)) then (decide (h1 < (List.length t23 : Int))) else false) then (r_b6 g_ax p_ax (x0, x1, ()) k pt0 (h0_b6 x0 x1 (w64 ((w64 t24) + (1 : Int))) (w64 (h1 + (1 : Int))) (List.set t23 (Int.toNat h1) (t26.1, (t26.2.1, (t26.2.2.1, (w64 t24))))))) else none) else none) else none) else none) else none) else none) else none) else none) else none) else none) else none) else none) else none) else (some (h0, (h2, ())))))))))))))))))))))))))))))) := by kernel_rfl
theorem S_b6 (h_ax : C_ax p_ax g_ax) {pre : In_b6 -> Bool} {fn : In_b6 -> Out_b6} (hev : ∀ x, pre x = true -> ∃ k, E_b6 g_ax p_ax k x = some (fn x)) : C_b6 pre fn := sound tysOk mixed (fn := Try.f123) rfl rfl rfl (.cons h_ax .nil) _ hev
end
/-! b7: lmarkStoStore -/
abbrev M_b7 : List Vm.Mode := [.loan S_StoStore, .imm I]
abbrev R_b7 : List (RK × Sh) := [(.imm, I)]
abbrev In_b7 : Type := (insSh M_b7).den
abbrev Out_b7 : Type := (outSh R_b7 M_b7).den
abbrev C_b7 (pre : In_b7 -> Bool) (fn : In_b7 -> Out_b7) : Prop := Sound Try.prog 52 ⟨M_b7, R_b7, pre, fn⟩
section
variable (g_b4 : In_b4 -> Out_b4) (p_b4 : In_b4 -> Bool) (g_aw : In_aw -> Out_aw) (p_aw : In_aw -> Bool) (g_b5 : In_b5 -> Out_b5) (p_b5 : In_b5 -> Bool) (g_b6 : In_b6 -> Out_b6) (p_b6 : In_b6 -> Bool)
abbrev X_b7 : Ctx := ctx tys 22 (conOf [(121, ⟨M_b4, R_b4, p_b4, g_b4⟩), (51, ⟨M_aw, R_aw, p_aw, g_aw⟩), (122, ⟨M_b5, R_b5, p_b5, g_b5⟩), (123, ⟨M_b6, R_b6, p_b6, g_b6⟩)]) (keepOf []) (fun _ => [])
noncomputable abbrev E_b7 (k : Nat) (x : In_b7) : Option Out_b7 := evFn (X_b7 g_b4 p_b4 g_aw p_aw g_b5 p_b5 g_b6 p_b6) Try.f52 R_b7 M_b7 k x
variable {g_b4 p_b4 g_aw p_aw g_b5 p_b5 g_b6 p_b6}
theorem ev_b7 (k : Nat) (x0 : Dm (.loan S_StoStore)) (x1 : Dm (.imm I)) : E_b7 g_b4 p_b4 g_aw p_aw g_b5 p_b5 g_b6 p_b6 k (x0, x1, ()) =
  (cl (p_b4 (x0.1, (x1, ()))) (g_b4 (x0.1, (x1, ()))) fun y0 => (cl (p_aw (x0.2.1, (y0.1, ()))) (g_aw (x0.2.1, (y0.1, ()))) fun y1 => (cl (p_b5 (x0.2.2.1, (y1.1, ()))) (g_b5 (x0.2.2.1, (y1.1, ()))) fun y2 => (cl (p_b6 (x0.2.2.2, (y2.1, ()))) (g_b6 (x0.2.2.2, (y2.1, ()))) fun y3 => (some (y3.1, ((y0.2.1, (y1.2.1, (y2.2.1, y3.2.1))), ()))))))) := by kernel_rfl
theorem S_b7 (h_b4 : C_b4 p_b4 g_b4) (h_aw : C_aw p_aw g_aw) (h_b5 : C_b5 p_b5 g_b5) (h_b6 : C_b6 p_b6 g_b6) {pre : In_b7 -> Bool} {fn : In_b7 -> Out_b7} (hev : ∀ x, pre x = true -> ∃ k, E_b7 g_b4 p_b4 g_aw p_aw g_b5 p_b5 g_b6 p_b6 k x = some (fn x)) : C_b7 pre fn := sound tysOk mixed (fn := Try.f52) rfl rfl rfl (.cons h_b4 (.cons h_aw (.cons h_b5 (.cons h_b6 .nil)))) _ hev
end
/-! b8: lheldIntS -/
abbrev M_b8 : List Vm.Mode := [.imm L_int, .imm I]
abbrev R_b8 : List (RK × Sh) := [(.imm, I)]
abbrev In_b8 : Type := (insSh M_b8).den
abbrev Out_b8 : Type := (outSh R_b8 M_b8).den
abbrev C_b8 (pre : In_b8 -> Bool) (fn : In_b8 -> Out_b8) : Prop := Sound Try.prog 125 ⟨M_b8, R_b8, pre, fn⟩
abbrev X_b8 : Ctx := ctx tys 21 (conOf []) (keepOf [(pt0, (⟨[(0, .asis), (1, .asis), (5, .asis)], [], []⟩ : Keep))]) (fun _ => [])
noncomputable abbrev E_b8 (k : Nat) (x : In_b8) : Option Out_b8 := evFn X_b8 Try.f125 R_b8 M_b8 k x
def h0_b8 (x0 : Dm (.imm L_int)) (x1 : Dm (.imm I)) (h0 : Dn I) (h1 : Dn I) : St := mkS [(0, (AV.val L_int x0)), (1, (AV.val I h0)), (5, (AV.val I h1))] []
noncomputable def r_b8 (x : In_b8) (k : Nat) (p : List Bool) (s : St) : Option Out_b8 := rounds X_b8 Try.f125 R_b8 M_b8 x k p s
theorem ev_b8 (k : Nat) (x0 : Dm (.imm L_int)) (x1 : Dm (.imm I)) : E_b8 k (x0, x1, ()) =
  (r_b8  (x0, x1, ()) k pt0 (h0_b8 x0 x1 x1 (0 : Int))) := by kernel_rfl
theorem rd0_b8 (k : Nat) (x0 : Dm (.imm L_int)) (x1 : Dm (.imm I)) (h0 : Dn I) (h1 : Dn I) : r_b8  (x0, x1, ()) (k + 1) pt0 (h0_b8 x0 x1 h0 h1) =
  (bif (decide (h1 < (List.length x0 : Int))) then (bif (bif (decide ((0 : Int) <= h1)) then (decide (h1 < (List.length x0 : Int))) else false) then (bif (bif (decide ((rdL (e := I) x0 h1) = h0)) then false else true) then (some ((-1 : Int), ())) else (r_b8  (x0, x1, ()) k pt0 (h0_b8 x0 x1 (w64 (h0 + (1 : Int))) (w64 (h1 + (1 : Int)))))) else none) else (some (h0, ()))) := by kernel_rfl
theorem S_b8  {pre : In_b8 -> Bool} {fn : In_b8 -> Out_b8} (hev : ∀ x, pre x = true -> ∃ k, E_b8 k x = some (fn x)) : C_b8 pre fn := sound tysOk mixed (fn := Try.f125) rfl rfl rfl ConsOk.nil _ hev
/-! b9: lheldSpcTestS -/
abbrev M_b9 : List Vm.Mode := [.imm L_SpcTest, .imm I]
abbrev R_b9 : List (RK × Sh) := [(.imm, I)]
abbrev In_b9 : Type := (insSh M_b9).den
abbrev Out_b9 : Type := (outSh R_b9 M_b9).den
abbrev C_b9 (pre : In_b9 -> Bool) (fn : In_b9 -> Out_b9) : Prop := Sound Try.prog 137 ⟨M_b9, R_b9, pre, fn⟩
abbrev X_b9 : Ctx := ctx tys 71 (conOf []) (keepOf [(pt0, (⟨[(0, .asis), (1, .asis), (5, .asis)], [], []⟩ : Keep))]) (fun _ => [])
noncomputable abbrev E_b9 (k : Nat) (x : In_b9) : Option Out_b9 := evFn X_b9 Try.f137 R_b9 M_b9 k x
def h0_b9 (x0 : Dm (.imm L_SpcTest)) (x1 : Dm (.imm I)) (h0 : Dn I) (h1 : Dn I) : St := mkS [(0, (AV.val L_SpcTest x0)), (1, (AV.val I h0)), (5, (AV.val I h1))] []
noncomputable def r_b9 (x : In_b9) (k : Nat) (p : List Bool) (s : St) : Option Out_b9 := rounds X_b9 Try.f137 R_b9 M_b9 x k p s
theorem ev_b9 (k : Nat) (x0 : Dm (.imm L_SpcTest)) (x1 : Dm (.imm I)) : E_b9 k (x0, x1, ()) =
  (r_b9  (x0, x1, ()) k pt0 (h0_b9 x0 x1 x1 (0 : Int))) := by kernel_rfl
theorem rd0_b9 (k : Nat) (x0 : Dm (.imm L_SpcTest)) (x1 : Dm (.imm I)) (h0 : Dn I) (h1 : Dn I) : r_b9  (x0, x1, ()) (k + 1) pt0 (h0_b9 x0 x1 h0 h1) =
  (lt (rdL (e := S_SpcTest) x0 h1) fun s4 => (lt (w64 (h0 + (1 : Int))) fun s0 => (lt (w64 (s0 + (1 : Int))) fun s1 => (lt (w64 (s1 + (1 : Int))) fun s2 => (lt (w64 (s2 + (1 : Int))) fun s3 => (bif (decide (h1 < (List.length x0 : Int))) then (bif (bif (decide ((0 : Int) <= h1)) then (decide (h1 < (List.length x0 : Int))) else false) then (bif (bif (decide (s4.1 = h0)) then false else true) then (some ((-1 : Int), ())) else (bif (bif (decide ((0 : Int) <= h1)) then (decide (h1 < (List.length x0 : Int))) else false) then (bif (bif (decide (s4.2.1.1 = s0)) then false else true) then (some ((-1 : Int), ())) else (bif (bif (decide ((0 : Int) <= h1)) then (decide (h1 < (List.length x0 : Int))) else false) then (bif (bif (decide (s4.2.1.2 = s1)) then false else true) then (some ((-1 : Int), ())) else (bif (bif (decide ((0 : Int) <= h1)) then (decide (h1 < (List.length x0 : Int))) else false) then (bif (bif (decide (s4.2.2.1.1 = s2)) then false else true) then (some ((-1 : Int), ())) else (bif (bif (decide ((0 : Int) <= h1)) then (decide (h1 < (List.length x0 : Int))) else false) then (bif (bif (decide (s4.2.2.1.2 = s3)) then false else true) then (some ((-1 : Int), ())) else (bif (bif (decide ((0 : Int) <= h1)) then (decide (h1 < (List.length x0 : Int))) else false) then (bif (bif (decide (s4.2.2.2 = (w64 (s3 + (1 : Int))))) then false else true) then (some ((-1 : Int), ())) else (r_b9  (x0, x1, ()) k pt0 (h0_b9 x0 x1 (w64 ((w64 (s3 + (1 : Int))) + (1 : Int))) (w64 (h1 + (1 : Int)))))) else none)) else none)) else none)) else none)) else none)) else none) else (some (h0, ())))))))) := by kernel_rfl
theorem S_b9  {pre : In_b9 -> Bool} {fn : In_b9 -> Out_b9} (hev : ∀ x, pre x = true -> ∃ k, E_b9 k x = some (fn x)) : C_b9 pre fn := sound tysOk mixed (fn := Try.f137) rfl rfl rfl ConsOk.nil _ hev
/-! ba: lheldSpcSpecS -/
abbrev M_ba : List Vm.Mode := [.imm L_SpcSpec, .imm I]
abbrev R_ba : List (RK × Sh) := [(.imm, I)]
abbrev In_ba : Type := (insSh M_ba).den
abbrev Out_ba : Type := (outSh R_ba M_ba).den
abbrev C_ba (pre : In_ba -> Bool) (fn : In_ba -> Out_ba) : Prop := Sound Try.prog 177 ⟨M_ba, R_ba, pre, fn⟩
section
variable (g_b9 : In_b9 -> Out_b9) (p_b9 : In_b9 -> Bool)
abbrev X_ba : Ctx := ctx tys 31 (conOf [(137, ⟨M_b9, R_b9, p_b9, g_b9⟩)]) (keepOf [(pt0, (⟨[(0, .asis), (1, .asis), (5, .asis)], [], []⟩ : Keep))]) (fun _ => [])
noncomputable abbrev E_ba (k : Nat) (x : In_ba) : Option Out_ba := evFn (X_ba g_b9 p_b9) Try.f177 R_ba M_ba k x
def h0_ba (x0 : Dm (.imm L_SpcSpec)) (x1 : Dm (.imm I)) (h0 : Dn I) (h1 : Dn I) : St := mkS [(0, (AV.val L_SpcSpec x0)), (1, (AV.val I h0)), (5, (AV.val I h1))] []
noncomputable def r_ba (x : In_ba) (k : Nat) (p : List Bool) (s : St) : Option Out_ba := rounds (X_ba g_b9 p_b9) Try.f177 R_ba M_ba x k p s
variable {g_b9 p_b9}
theorem ev_ba (k : Nat) (x0 : Dm (.imm L_SpcSpec)) (x1 : Dm (.imm I)) : E_ba g_b9 p_b9 k (x0, x1, ()) =
  (r_ba g_b9 p_b9 (x0, x1, ()) k pt0 (h0_ba x0 x1 x1 (0 : Int))) := by kernel_rfl
theorem rd0_ba (k : Nat) (x0 : Dm (.imm L_SpcSpec)) (x1 : Dm (.imm I)) (h0 : Dn I) (h1 : Dn I) : r_ba g_b9 p_b9 (x0, x1, ()) (k + 1) pt0 (h0_ba x0 x1 h0 h1) =
  (bif (decide (h1 < (List.length x0 : Int))) then (bif (bif (decide ((0 : Int) <= h1)) then (decide (h1 < (List.length x0 : Int))) else false) then (cl (p_b9 ((rdL (e := S_SpcSpec) x0 h1).1, (h0, ()))) (g_b9 ((rdL (e := S_SpcSpec) x0 h1).1, (h0, ()))) fun y0 => (bif (decide (y0.1 < (0 : Int))) then (some ((-1 : Int), ())) else (bif (bif (decide ((0 : Int) <= h1)) then (decide (h1 < (List.length x0 : Int))) else false) then (bif (bif (decide ((rdL (e := S_SpcSpec) x0 h1).2 = y0.1)) then false else true) then (some ((-1 : Int), ())) else (r_ba g_b9 p_b9 (x0, x1, ()) k pt0 (h0_ba x0 x1 (w64 (y0.1 + (1 : Int))) (w64 (h1 + (1 : Int)))))) else none))) else none) else (some (h0, ()))) := by kernel_rfl
theorem S_ba (h_b9 : C_b9 p_b9 g_b9) {pre : In_ba -> Bool} {fn : In_ba -> Out_ba} (hev : ∀ x, pre x = true -> ∃ k, E_ba g_b9 p_b9 k x = some (fn x)) : C_ba pre fn := sound tysOk mixed (fn := Try.f177) rfl rfl rfl (.cons h_b9 .nil) _ hev
end
/-! bb: lheldDecDecS -/
abbrev M_bb : List Vm.Mode := [.imm L_DecDec, .imm I]
abbrev R_bb : List (RK × Sh) := [(.imm, I)]
abbrev In_bb : Type := (insSh M_bb).den
abbrev Out_bb : Type := (outSh R_bb M_bb).den
abbrev C_bb (pre : In_bb -> Bool) (fn : In_bb -> Out_bb) : Prop := Sound Try.prog 138 ⟨M_bb, R_bb, pre, fn⟩
abbrev X_bb : Ctx := ctx tys 31 (conOf []) (keepOf [(pt0, (⟨[(0, .asis), (1, .asis), (5, .asis)], [], []⟩ : Keep))]) (fun _ => [])
noncomputable abbrev E_bb (k : Nat) (x : In_bb) : Option Out_bb := evFn X_bb Try.f138 R_bb M_bb k x
def h0_bb (x0 : Dm (.imm L_DecDec)) (x1 : Dm (.imm I)) (h0 : Dn I) (h1 : Dn I) : St := mkS [(0, (AV.val L_DecDec x0)), (1, (AV.val I h0)), (5, (AV.val I h1))] []
noncomputable def r_bb (x : In_bb) (k : Nat) (p : List Bool) (s : St) : Option Out_bb := rounds X_bb Try.f138 R_bb M_bb x k p s
theorem ev_bb (k : Nat) (x0 : Dm (.imm L_DecDec)) (x1 : Dm (.imm I)) : E_bb k (x0, x1, ()) =
  (r_bb  (x0, x1, ()) k pt0 (h0_bb x0 x1 x1 (0 : Int))) := by kernel_rfl
theorem rd0_bb (k : Nat) (x0 : Dm (.imm L_DecDec)) (x1 : Dm (.imm I)) (h0 : Dn I) (h1 : Dn I) : r_bb  (x0, x1, ()) (k + 1) pt0 (h0_bb x0 x1 h0 h1) =
  (bif (decide (h1 < (List.length x0 : Int))) then (bif (bif (decide ((0 : Int) <= h1)) then (decide (h1 < (List.length x0 : Int))) else false) then (bif (bif (decide ((rdL (e := S_DecDec) x0 h1).1 = h0)) then false else true) then (some ((-1 : Int), ())) else (bif (bif (decide ((0 : Int) <= h1)) then (decide (h1 < (List.length x0 : Int))) else false) then (bif (bif (decide ((rdL (e := S_DecDec) x0 h1).2 = (w64 (h0 + (1 : Int))))) then false else true) then (some ((-1 : Int), ())) else (r_bb  (x0, x1, ()) k pt0 (h0_bb x0 x1 (w64 ((w64 (h0 + (1 : Int))) + (1 : Int))) (w64 (h1 + (1 : Int)))))) else none)) else none) else (some (h0, ()))) := by kernel_rfl
theorem S_bb  {pre : In_bb -> Bool} {fn : In_bb -> Out_bb} (hev : ∀ x, pre x = true -> ∃ k, E_bb k x = some (fn x)) : C_bb pre fn := sound tysOk mixed (fn := Try.f138) rfl rfl rfl ConsOk.nil _ hev
/-! bc: lheldTstTestS -/
abbrev M_bc : List Vm.Mode := [.imm L_TstTest, .imm I]
abbrev R_bc : List (RK × Sh) := [(.imm, I)]
abbrev In_bc : Type := (insSh M_bc).den
abbrev Out_bc : Type := (outSh R_bc M_bc).den
abbrev C_bc (pre : In_bc -> Bool) (fn : In_bc -> Out_bc) : Prop := Sound Try.prog 101 ⟨M_bc, R_bc, pre, fn⟩
section
variable (g_bb : In_bb -> Out_bb) (p_bb : In_bb -> Bool)
abbrev X_bc : Ctx := ctx tys 124 (conOf [(138, ⟨M_bb, R_bb, p_bb, g_bb⟩)]) (keepOf [(pt0, (⟨[(0, .asis), (1, .asis), (5, .asis)], [], []⟩ : Keep))]) (fun _ => [])
noncomputable abbrev E_bc (k : Nat) (x : In_bc) : Option Out_bc := evFn (X_bc g_bb p_bb) Try.f101 R_bc M_bc k x
def h0_bc (x0 : Dm (.imm L_TstTest)) (x1 : Dm (.imm I)) (h0 : Dn I) (h1 : Dn I) : St := mkS [(0, (AV.val L_TstTest x0)), (1, (AV.val I h0)), (5, (AV.val I h1))] []
noncomputable def r_bc (x : In_bc) (k : Nat) (p : List Bool) (s : St) : Option Out_bc := rounds (X_bc g_bb p_bb) Try.f101 R_bc M_bc x k p s
variable {g_bb p_bb}
theorem ev_bc (k : Nat) (x0 : Dm (.imm L_TstTest)) (x1 : Dm (.imm I)) : E_bc g_bb p_bb k (x0, x1, ()) =
  (r_bc g_bb p_bb (x0, x1, ()) k pt0 (h0_bc x0 x1 x1 (0 : Int))) := by kernel_rfl
theorem rd0_bc (k : Nat) (x0 : Dm (.imm L_TstTest)) (x1 : Dm (.imm I)) (h0 : Dn I) (h1 : Dn I) : r_bc g_bb p_bb (x0, x1, ()) (k + 1) pt0 (h0_bc x0 x1 h0 h1) =
  (lt (rdL (e := S_TstTest) x0 h1) fun s9 => (lt (w64 (h0 + (1 : Int))) fun s0 => (lt (w64 (s0 + (1 : Int))) fun s1 => (lt (w64 (s1 + (1 : Int))) fun s2 => (lt (w64 (s2 + (1 : Int))) fun s3 => (lt (w64 (s3 + (1 : Int))) fun s4 => (lt (w64 (s4 + (1 : Int))) fun s5 => (lt (w64 (s5 + (1 : Int))) fun s6 => (lt (w64 (s6 + (1 : Int))) fun s7 => (lt (w64 (s7 + (1 : Int))) fun s8 => (bif (decide (h1 < (List.length x0 : Int))) then (bif (bif (decide ((0 : Int) <= h1)) then (decide (h1 < (List.length x0 : Int))) else false) then (bif (bif (decide (s9.1.1 = h0)) then false else true) then (some ((-1 : Int), ())) else (bif (bif (decide ((0 : Int) <= h1)) then (decide (h1 < (List.length x0 : Int))) else false) then (bif (bif (decide (s9.1.2.1.1 = s0)) then false else true) then (some ((-1 : Int), ())) else (bif (bif (decide ((0 : Int) <= h1)) then (decide (h1 < (List.length x0 : Int))) else false) then (bif (bif (decide (s9.1.2.1.2 = s1)) then false else true) then (some ((-1 : Int), ())) else (bif (bif (decide ((0 : Int) <= h1)) then (decide (h1 < (List.length x0 : Int))) else false) then (bif (bif (decide (s9.1.2.2.1.1 = s2)) then false else true) then (some ((-1 : Int), ())) else (bif (bif (decide ((0 : Int) <= h1)) then (decide (h1 < (List.length x0 : Int))) else false) then (bif (bif (decide (s9.1.2.2.1.2 = s3)) then false else true) then (some ((-1 : Int), ())) else (bif (bif (decide ((0 : Int) <= h1)) then (decide (h1 < (List.length x0 : Int))) else false) then (bif (bif (decide (s9.1.2.2.2 = s4)) then false else true) then (some ((-1 : Int), ())) else (bif (bif (decide ((0 : Int) <= h1)) then (decide (h1 < (List.length x0 : Int))) else false) then (bif (bif (decide (s9.2.1 = s5)) then false else true) then (some ((-1 : Int), ())) else (bif (bif (decide ((0 : Int) <= h1)) then (decide (h1 < (List.length x0 : Int))) else false) then (bif (bif (decide (s9.2.2.1.1 = s6)) then false else true) then (some ((-1 : Int), ())) else (bif (bif (decide ((0 : Int) <= h1)) then (decide (h1 < (List.length x0 : Int))) else false) then (bif (bif (decide (s9.2.2.1.2 = s7)) then false else true) then (some ((-1 : Int), ())) else (bif (bif (decide ((0 : Int) <= h1)) then (decide (h1 < (List.length x0 : Int))) else false) then (bif (bif (decide (s9.2.2.2.1 = s8)) then false else true) then (some ((-1 : Int), ())) else (bif (bif (decide ((0 : Int) <= h1)) then (decide (h1 < (List.length x0 : Int))) else false) then (cl (p_bb (s9.2.2.2.2, ((w64 (s8 + (1 : Int))), ()))) (g_bb (s9.2.2.2.2, ((w64 (s8 + (1 : Int))), ()))) fun y0 => (bif (decide (y0.1 < (0 : Int))) then (some ((-1 : Int), ())) else (r_bc g_bb p_bb (x0, x1, ()) k pt0 (h0_bc x0 x1 (y0.1) (w64 (h1 + (1 : Int))))))) else none)) else none)) else none)) else none)) else none)) else none)) else none)) else none)) else none)) else none)) else none) else (some (h0, ()))))))))))))) := by kernel_rfl
theorem S_bc (h_bb : C_bb p_bb g_bb) {pre : In_bc -> Bool} {fn : In_bc -> Out_bc} (hev : ∀ x, pre x = true -> ∃ k, E_bc g_bb p_bb k x = some (fn x)) : C_bc pre fn := sound tysOk mixed (fn := Try.f101) rfl rfl rfl (.cons h_bb .nil) _ hev
end
/-! bd: lheldBatSigS -/
abbrev M_bd : List Vm.Mode := [.imm L_BatSig, .imm I]
abbrev R_bd : List (RK × Sh) := [(.imm, I)]
abbrev In_bd : Type := (insSh M_bd).den
abbrev Out_bd : Type := (outSh R_bd M_bd).den
abbrev C_bd (pre : In_bd -> Bool) (fn : In_bd -> Out_bd) : Prop := Sound Try.prog 102 ⟨M_bd, R_bd, pre, fn⟩
abbrev X_bd : Ctx := ctx tys 40 (conOf []) (keepOf [(pt0, (⟨[(0, .asis), (1, .asis), (5, .asis)], [], []⟩ : Keep))]) (fun _ => [])
noncomputable abbrev E_bd (k : Nat) (x : In_bd) : Option Out_bd := evFn X_bd Try.f102 R_bd M_bd k x
def h0_bd (x0 : Dm (.imm L_BatSig)) (x1 : Dm (.imm I)) (h0 : Dn I) (h1 : Dn I) : St := mkS [(0, (AV.val L_BatSig x0)), (1, (AV.val I h0)), (5, (AV.val I h1))] []
noncomputable def r_bd (x : In_bd) (k : Nat) (p : List Bool) (s : St) : Option Out_bd := rounds X_bd Try.f102 R_bd M_bd x k p s
theorem ev_bd (k : Nat) (x0 : Dm (.imm L_BatSig)) (x1 : Dm (.imm I)) : E_bd k (x0, x1, ()) =
  (r_bd  (x0, x1, ()) k pt0 (h0_bd x0 x1 x1 (0 : Int))) := by kernel_rfl
theorem rd0_bd (k : Nat) (x0 : Dm (.imm L_BatSig)) (x1 : Dm (.imm I)) (h0 : Dn I) (h1 : Dn I) : r_bd  (x0, x1, ()) (k + 1) pt0 (h0_bd x0 x1 h0 h1) =
  (bif (decide (h1 < (List.length x0 : Int))) then (bif (bif (decide ((0 : Int) <= h1)) then (decide (h1 < (List.length x0 : Int))) else false) then (bif (bif (decide ((rdL (e := S_DayDay) x0 h1).1 = h0)) then false else true) then (some ((-1 : Int), ())) else (bif (bif (decide ((0 : Int) <= h1)) then (decide (h1 < (List.length x0 : Int))) else false) then (bif (bif (decide ((rdL (e := S_DayDay) x0 h1).2.1 = (w64 (h0 + (1 : Int))))) then false else true) then (some ((-1 : Int), ())) else (bif (bif (decide ((0 : Int) <= h1)) then (decide (h1 < (List.length x0 : Int))) else false) then (bif (bif (decide ((rdL (e := S_DayDay) x0 h1).2.2 = (w64 ((w64 (h0 + (1 : Int))) + (1 : Int))))) then false else true) then (some ((-1 : Int), ())) else (r_bd  (x0, x1, ()) k pt0 (h0_bd x0 x1 (w64 ((w64 ((w64 (h0 + (1 : Int))) + (1 : Int))) + (1 : Int))) (w64 (h1 + (1 : Int)))))) else none)) else none)) else none) else (some (h0, ()))) := by kernel_rfl
theorem S_bd  {pre : In_bd -> Bool} {fn : In_bd -> Out_bd} (hev : ∀ x, pre x = true -> ∃ k, E_bd k x = some (fn x)) : C_bd pre fn := sound tysOk mixed (fn := Try.f102) rfl rfl rfl ConsOk.nil _ hev
/-! be: lheldBoolS -/
abbrev M_be : List Vm.Mode := [.imm L_bool, .imm I]
abbrev R_be : List (RK × Sh) := [(.imm, I)]
abbrev In_be : Type := (insSh M_be).den
abbrev Out_be : Type := (outSh R_be M_be).den
abbrev C_be (pre : In_be -> Bool) (fn : In_be -> Out_be) : Prop := Sound Try.prog 103 ⟨M_be, R_be, pre, fn⟩
abbrev X_be : Ctx := ctx tys 23 (conOf []) (keepOf [(pt0, (⟨[(0, .asis), (1, .asis), (5, .asis)], [], []⟩ : Keep))]) (fun _ => [])
noncomputable abbrev E_be (k : Nat) (x : In_be) : Option Out_be := evFn X_be Try.f103 R_be M_be k x
def h0_be (x0 : Dm (.imm L_bool)) (x1 : Dm (.imm I)) (h0 : Dn I) (h1 : Dn I) : St := mkS [(0, (AV.val L_bool x0)), (1, (AV.val I h0)), (5, (AV.val I h1))] []
noncomputable def r_be (x : In_be) (k : Nat) (p : List Bool) (s : St) : Option Out_be := rounds X_be Try.f103 R_be M_be x k p s
theorem ev_be (k : Nat) (x0 : Dm (.imm L_bool)) (x1 : Dm (.imm I)) : E_be k (x0, x1, ()) =
  (r_be  (x0, x1, ()) k pt0 (h0_be x0 x1 x1 (0 : Int))) := by kernel_rfl
theorem rd0_be (k : Nat) (x0 : Dm (.imm L_bool)) (x1 : Dm (.imm I)) (h0 : Dn I) (h1 : Dn I) : r_be  (x0, x1, ()) (k + 1) pt0 (h0_be x0 x1 h0 h1) =
  (bif (decide (h1 < (List.length x0 : Int))) then (bif (bif (decide ((0 : Int) <= h1)) then (decide (h1 < (List.length x0 : Int))) else false) then (bif (bif (decide ((3 : Int) = (0 : Int))) then false else true) then (bif (bif ((rdL (e := Sh.bool) x0 h1) == (decide ((Int.tmod h0 (3 : Int)) = (0 : Int)))) then false else true) then (some ((-1 : Int), ())) else (r_be  (x0, x1, ()) k pt0 (h0_be x0 x1 (w64 (h0 + (1 : Int))) (w64 (h1 + (1 : Int)))))) else none) else none) else (some (h0, ()))) := by kernel_rfl
theorem S_be  {pre : In_be -> Bool} {fn : In_be -> Out_be} (hev : ∀ x, pre x = true -> ∃ k, E_be k x = some (fn x)) : C_be pre fn := sound tysOk mixed (fn := Try.f103) rfl rfl rfl ConsOk.nil _ hev
/-! bf: lheldBatBatchS -/
abbrev M_bf : List Vm.Mode := [.imm L_BatBatch, .imm I]
abbrev R_bf : List (RK × Sh) := [(.imm, I)]
abbrev In_bf : Type := (insSh M_bf).den
abbrev Out_bf : Type := (outSh R_bf M_bf).den
abbrev C_bf (pre : In_bf -> Bool) (fn : In_bf -> Out_bf) : Prop := Sound Try.prog 178 ⟨M_bf, R_bf, pre, fn⟩
section
variable (g_bc : In_bc -> Out_bc) (p_bc : In_bc -> Bool) (g_bd : In_bd -> Out_bd) (p_bd : In_bd -> Bool) (g_be : In_be -> Out_be) (p_be : In_be -> Bool)
abbrev X_bf : Ctx := ctx tys 67 (conOf [(101, ⟨M_bc, R_bc, p_bc, g_bc⟩), (102, ⟨M_bd, R_bd, p_bd, g_bd⟩), (103, ⟨M_be, R_be, p_be, g_be⟩)]) (keepOf [(pt0, (⟨[(0, .asis), (1, .asis), (5, .asis)], [], []⟩ : Keep))]) (fun _ => [])
noncomputable abbrev E_bf (k : Nat) (x : In_bf) : Option Out_bf := evFn (X_bf g_bc p_bc g_bd p_bd g_be p_be) Try.f178 R_bf M_bf k x
def h0_bf (x0 : Dm (.imm L_BatBatch)) (x1 : Dm (.imm I)) (h0 : Dn I) (h1 : Dn I) : St := mkS [(0, (AV.val L_BatBatch x0)), (1, (AV.val I h0)), (5, (AV.val I h1))] []
noncomputable def r_bf (x : In_bf) (k : Nat) (p : List Bool) (s : St) : Option Out_bf := rounds (X_bf g_bc p_bc g_bd p_bd g_be p_be) Try.f178 R_bf M_bf x k p s
variable {g_bc p_bc g_bd p_bd g_be p_be}
theorem ev_bf (k : Nat) (x0 : Dm (.imm L_BatBatch)) (x1 : Dm (.imm I)) : E_bf g_bc p_bc g_bd p_bd g_be p_be k (x0, x1, ()) =
  (r_bf g_bc p_bc g_bd p_bd g_be p_be (x0, x1, ()) k pt0 (h0_bf x0 x1 x1 (0 : Int))) := by kernel_rfl
theorem rd0_bf (k : Nat) (x0 : Dm (.imm L_BatBatch)) (x1 : Dm (.imm I)) (h0 : Dn I) (h1 : Dn I) : r_bf g_bc p_bc g_bd p_bd g_be p_be (x0, x1, ()) (k + 1) pt0 (h0_bf x0 x1 h0 h1) =
  (lt (rdL (e := S_BatBatch) x0 h1) fun s1 => (lt (w64 (h0 + (1 : Int))) fun s0 => (bif (decide (h1 < (List.length x0 : Int))) then (bif (bif (decide ((0 : Int) <= h1)) then (decide (h1 < (List.length x0 : Int))) else false) then (bif (bif (decide (s1.1 = h0)) then false else true) then (some ((-1 : Int), ())) else (bif (bif (decide ((0 : Int) <= h1)) then (decide (h1 < (List.length x0 : Int))) else false) then (bif (bif (decide (s1.2.1 = s0)) then false else true) then (some ((-1 : Int), ())) else (bif (bif (decide ((0 : Int) <= h1)) then (decide (h1 < (List.length x0 : Int))) else false) then (cl (p_bc (s1.2.2.1, ((w64 (s0 + (1 : Int))), ()))) (g_bc (s1.2.2.1, ((w64 (s0 + (1 : Int))), ()))) fun y0 => (bif (decide (y0.1 < (0 : Int))) then (some ((-1 : Int), ())) else (bif (bif (decide ((0 : Int) <= h1)) then (decide (h1 < (List.length x0 : Int))) else false) then (bif (bif (decide (s1.2.2.2.1 = y0.1)) then false else true) then (some ((-1 : Int), ())) else (bif (bif (decide ((0 : Int) <= h1)) then (decide (h1 < (List.length x0 : Int))) else false) then (cl (p_bd (s1.2.2.2.2.1, ((w64 (y0.1 + (1 : Int))), ()))) (g_bd (s1.2.2.2.2.1, ((w64 (y0.1 + (1 : Int))), ()))) fun y1 => (bif (decide (y1.1 < (0 : Int))) then (some ((-1 : Int), ())) else (bif (bif (decide ((0 : Int) <= h1)) then (decide (h1 < (List.length x0 : Int))) else false) then (cl (p_be (s1.2.2.2.2.2, (y1.1, ()))) (g_be (s1.2.2.2.2.2, (y1.1, ()))) fun y2 => (bif (decide (y2.1 < (0 : Int))) then (some ((-1 : Int), ())) else (r_bf g_bc p_bc g_bd p_bd g_be p_be (x0, x1, ()) k pt0 (h0_bf x0 x1 (y2.1) (w64 (h1 + (1 : Int))))))) else none))) else none)) else none))) else none)) else none)) else none) else (some (h0, ()))))) := by kernel_rfl
theorem S_bf (h_bc : C_bc p_bc g_bc) (h_bd : C_bd p_bd g_bd) (h_be : C_be p_be g_be) {pre : In_bf -> Bool} {fn : In_bf -> Out_bf} (hev : ∀ x, pre x = true -> ∃ k, E_bf g_bc p_bc g_bd p_bd g_be p_be k x = some (fn x)) : C_bf pre fn := sound tysOk mixed (fn := Try.f178) rfl rfl rfl (.cons h_bc (.cons h_bd (.cons h_be .nil))) _ hev
end
/-! bg: lheldHouHouse -/
abbrev M_bg : List Vm.Mode := [.imm S_HouHouse, .imm I]
abbrev R_bg : List (RK × Sh) := [(.imm, I)]
abbrev In_bg : Type := (insSh M_bg).den
abbrev Out_bg : Type := (outSh R_bg M_bg).den
abbrev C_bg (pre : In_bg -> Bool) (fn : In_bg -> Out_bg) : Prop := Sound Try.prog 124 ⟨M_bg, R_bg, pre, fn⟩
section
variable (g_b8 : In_b8 -> Out_b8) (p_b8 : In_b8 -> Bool) (g_ba : In_ba -> Out_ba) (p_ba : In_ba -> Bool) (g_bf : In_bf -> Out_bf) (p_bf : In_bf -> Bool)
abbrev X_bg : Ctx := ctx tys 24 (conOf [(125, ⟨M_b8, R_b8, p_b8, g_b8⟩), (177, ⟨M_ba, R_ba, p_ba, g_ba⟩), (178, ⟨M_bf, R_bf, p_bf, g_bf⟩)]) (keepOf []) (fun _ => [])
noncomputable abbrev E_bg (k : Nat) (x : In_bg) : Option Out_bg := evFn (X_bg g_b8 p_b8 g_ba p_ba g_bf p_bf) Try.f124 R_bg M_bg k x
variable {g_b8 p_b8 g_ba p_ba g_bf p_bf}
theorem ev_bg (k : Nat) (x0 : Dm (.imm S_HouHouse)) (x1 : Dm (.imm I)) : E_bg g_b8 p_b8 g_ba p_ba g_bf p_bf k (x0, x1, ()) =
  (cl (p_b8 (x0.1, (x1, ()))) (g_b8 (x0.1, (x1, ()))) fun y0 => (bif (decide (y0.1 < (0 : Int))) then (some ((-1 : Int), ())) else (cl (p_ba (x0.2.1, (y0.1, ()))) (g_ba (x0.2.1, (y0.1, ()))) fun y1 => (bif (decide (y1.1 < (0 : Int))) then (some ((-1 : Int), ())) else (cl (p_bf (x0.2.2, (y1.1, ()))) (g_bf (x0.2.2, (y1.1, ()))) fun y2 => (bif (decide (y2.1 < (0 : Int))) then (some ((-1 : Int), ())) else (some (y2.1, ())))))))) := by kernel_rfl
theorem S_bg (h_b8 : C_b8 p_b8 g_b8) (h_ba : C_ba p_ba g_ba) (h_bf : C_bf p_bf g_bf) {pre : In_bg -> Bool} {fn : In_bg -> Out_bg} (hev : ∀ x, pre x = true -> ∃ k, E_bg g_b8 p_b8 g_ba p_ba g_bf p_bf k x = some (fn x)) : C_bg pre fn := sound tysOk mixed (fn := Try.f124) rfl rfl rfl (.cons h_b8 (.cons h_ba (.cons h_bf .nil))) _ hev
end
/-! bh: lheldAudLineS -/
abbrev M_bh : List Vm.Mode := [.imm L_AudLine, .imm I]
abbrev R_bh : List (RK × Sh) := [(.imm, I)]
abbrev In_bh : Type := (insSh M_bh).den
abbrev Out_bh : Type := (outSh R_bh M_bh).den
abbrev C_bh (pre : In_bh -> Bool) (fn : In_bh -> Out_bh) : Prop := Sound Try.prog 126 ⟨M_bh, R_bh, pre, fn⟩
section
variable (g_b9 : In_b9 -> Out_b9) (p_b9 : In_b9 -> Bool)
abbrev X_bh : Ctx := ctx tys 104 (conOf [(137, ⟨M_b9, R_b9, p_b9, g_b9⟩)]) (keepOf [(pt0, (⟨[(0, .asis), (1, .asis), (5, .asis)], [], []⟩ : Keep))]) (fun _ => [])
noncomputable abbrev E_bh (k : Nat) (x : In_bh) : Option Out_bh := evFn (X_bh g_b9 p_b9) Try.f126 R_bh M_bh k x
def h0_bh (x0 : Dm (.imm L_AudLine)) (x1 : Dm (.imm I)) (h0 : Dn I) (h1 : Dn I) : St := mkS [(0, (AV.val L_AudLine x0)), (1, (AV.val I h0)), (5, (AV.val I h1))] []
noncomputable def r_bh (x : In_bh) (k : Nat) (p : List Bool) (s : St) : Option Out_bh := rounds (X_bh g_b9 p_b9) Try.f126 R_bh M_bh x k p s
variable {g_b9 p_b9}
theorem ev_bh (k : Nat) (x0 : Dm (.imm L_AudLine)) (x1 : Dm (.imm I)) : E_bh g_b9 p_b9 k (x0, x1, ()) =
  (r_bh g_b9 p_b9 (x0, x1, ()) k pt0 (h0_bh x0 x1 x1 (0 : Int))) := by kernel_rfl
theorem rd0_bh (k : Nat) (x0 : Dm (.imm L_AudLine)) (x1 : Dm (.imm I)) (h0 : Dn I) (h1 : Dn I) : r_bh g_b9 p_b9 (x0, x1, ()) (k + 1) pt0 (h0_bh x0 x1 h0 h1) =
  (lt (rdL (e := S_AudLine) x0 h1) fun s6 => (lt (w64 (h0 + (1 : Int))) fun s0 => (lt (w64 (s0 + (1 : Int))) fun s1 => (lt (w64 (s1 + (1 : Int))) fun s2 => (lt (w64 (s2 + (1 : Int))) fun s3 => (lt (w64 (s3 + (1 : Int))) fun s4 => (lt (w64 (s4 + (1 : Int))) fun s5 => (bif (decide (h1 < (List.length x0 : Int))) then (bif (bif (decide ((0 : Int) <= h1)) then (decide (h1 < (List.length x0 : Int))) else false) then (bif (bif (decide (s6.1.1 = h0)) then false else true) then (some ((-1 : Int), ())) else (bif (bif (decide ((0 : Int) <= h1)) then (decide (h1 < (List.length x0 : Int))) else false) then (bif (bif (decide (s6.1.2.1 = s0)) then false else true) then (some ((-1 : Int), ())) else (bif (bif (decide ((0 : Int) <= h1)) then (decide (h1 < (List.length x0 : Int))) else false) then (bif (bif (decide (s6.1.2.2.1 = s1)) then false else true) then (some ((-1 : Int), ())) else (bif (bif (decide ((0 : Int) <= h1)) then (decide (h1 < (List.length x0 : Int))) else false) then (bif (bif (decide (s6.1.2.2.2.1 = s2)) then false else true) then (some ((-1 : Int), ())) else (bif (bif (decide ((0 : Int) <= h1)) then (decide (h1 < (List.length x0 : Int))) else false) then (bif (bif (decide (s6.1.2.2.2.2.1 = s3)) then false else true) then (some ((-1 : Int), ())) else (bif (bif (decide ((0 : Int) <= h1)) then (decide (h1 < (List.length x0 : Int))) else false) then (bif (bif (decide (s6.1.2.2.2.2.2.1.1 = s4)) then false else true) then (some ((-1 : Int), ())) else (bif (bif (decide ((0 : Int) <= h1)) then (decide (h1 < (List.length x0 : Int))) else false) then (bif (bif (decide (s6.1.2.2.2.2.2.1.2 = s5)) then false else true) then (some ((-1 : Int), ())) else (bif (bif (decide ((0 : Int) <= h1)) then (decide (h1 < (List.length x0 : Int))) else false) then (cl (p_b9 (s6.1.2.2.2.2.2.2, ((w64 (s5 + (1 : Int))), ()))) (g_b9 (s6.1.2.2.2.2.2.2, ((w64 (s5 + (1 : Int))), ()))) fun y0 => (bif (decide (y0.1 < (0 : Int))) then (some ((-1 : Int), ())) else (bif (bif (decide ((0 : Int) <= h1)) then (decide (h1 < (List.length x0 : Int))) else false) then (bif (bif (decide (s6.2 = y0.1)) then false else true) then (some ((-1 : Int), ())) else (r_bh g_b9 p_b9 (x0, x1, ()) k pt0 (h0_bh x0 x1 (w64 (y0.1 + (1 : Int))) (w64 (h1 + (1 : Int)))))) else none))) else none)) else none)) else none)) else none)) else none)) else none)) else none)) else none) else (some (h0, ())))))))))) := by kernel_rfl
theorem S_bh (h_b9 : C_b9 p_b9 g_b9) {pre : In_bh -> Bool} {fn : In_bh -> Out_bh} (hev : ∀ x, pre x = true -> ∃ k, E_bh g_b9 p_b9 k x = some (fn x)) : C_bh pre fn := sound tysOk mixed (fn := Try.f126) rfl rfl rfl (.cons h_b9 .nil) _ hev
end
/-! bi: lheldSesSesS -/
abbrev M_bi : List Vm.Mode := [.imm L_SesSes, .imm I]
abbrev R_bi : List (RK × Sh) := [(.imm, I)]
abbrev In_bi : Type := (insSh M_bi).den
abbrev Out_bi : Type := (outSh R_bi M_bi).den
abbrev C_bi (pre : In_bi -> Bool) (fn : In_bi -> Out_bi) : Prop := Sound Try.prog 127 ⟨M_bi, R_bi, pre, fn⟩
section
variable (g_b9 : In_b9 -> Out_b9) (p_b9 : In_b9 -> Bool)
abbrev X_bi : Ctx := ctx tys 124 (conOf [(137, ⟨M_b9, R_b9, p_b9, g_b9⟩)]) (keepOf [(pt0, (⟨[(0, .asis), (1, .asis), (5, .asis)], [], []⟩ : Keep))]) (fun _ => [])
noncomputable abbrev E_bi (k : Nat) (x : In_bi) : Option Out_bi := evFn (X_bi g_b9 p_b9) Try.f127 R_bi M_bi k x
def h0_bi (x0 : Dm (.imm L_SesSes)) (x1 : Dm (.imm I)) (h0 : Dn I) (h1 : Dn I) : St := mkS [(0, (AV.val L_SesSes x0)), (1, (AV.val I h0)), (5, (AV.val I h1))] []
noncomputable def r_bi (x : In_bi) (k : Nat) (p : List Bool) (s : St) : Option Out_bi := rounds (X_bi g_b9 p_b9) Try.f127 R_bi M_bi x k p s
variable {g_b9 p_b9}
theorem ev_bi (k : Nat) (x0 : Dm (.imm L_SesSes)) (x1 : Dm (.imm I)) : E_bi g_b9 p_b9 k (x0, x1, ()) =
  (r_bi g_b9 p_b9 (x0, x1, ()) k pt0 (h0_bi x0 x1 x1 (0 : Int))) := by kernel_rfl
theorem rd0_bi (k : Nat) (x0 : Dm (.imm L_SesSes)) (x1 : Dm (.imm I)) (h0 : Dn I) (h1 : Dn I) : r_bi g_b9 p_b9 (x0, x1, ()) (k + 1) pt0 (h0_bi x0 x1 h0 h1) =
  (lt (rdL (e := S_SesSes) x0 h1) fun s7 => (lt (w64 (h0 + (1 : Int))) fun s0 => (lt (w64 (s0 + (1 : Int))) fun s1 => (lt (w64 (s1 + (1 : Int))) fun s2 => (lt (w64 (s2 + (1 : Int))) fun s3 => (lt (w64 (s3 + (1 : Int))) fun s4 => (lt (w64 (s4 + (1 : Int))) fun s5 => (lt (w64 (s5 + (1 : Int))) fun s6 => (bif (decide (h1 < (List.length x0 : Int))) then (bif (bif (decide ((0 : Int) <= h1)) then (decide (h1 < (List.length x0 : Int))) else false) then (bif (bif (decide ((3 : Int) = (0 : Int))) then false else true) then (bif (bif (s7.1 == (decide ((Int.tmod h0 (3 : Int)) = (0 : Int)))) then false else true) then (some ((-1 : Int), ())) else (bif (bif (decide ((0 : Int) <= h1)) then (decide (h1 < (List.length x0 : Int))) else false) then (bif (bif (decide (s7.2.1.1 = s0)) then false else true) then (some ((-1 : Int), ())) else (bif (bif (decide ((0 : Int) <= h1)) then (decide (h1 < (List.length x0 : Int))) else false) then (bif (bif (decide (s7.2.1.2.1 = s1)) then false else true) then (some ((-1 : Int), ())) else (bif (bif (decide ((0 : Int) <= h1)) then (decide (h1 < (List.length x0 : Int))) else false) then (bif (bif (decide (s7.2.1.2.2.1 = s2)) then false else true) then (some ((-1 : Int), ())) else (bif (bif (decide ((0 : Int) <= h1)) then (decide (h1 < (List.length x0 : Int))) else false) then (bif (bif (decide (s7.2.1.2.2.2.1 = s3)) then false else true) then (some ((-1 : Int), ())) else (bif (bif (decide ((0 : Int) <= h1)) then (decide (h1 < (List.length x0 : Int))) else false) then (bif (bif (decide (s7.2.1.2.2.2.2.1 = s4)) then false else true) then (some ((-1 : Int), ())) else (bif (bif (decide ((0 : Int) <= h1)) then (decide (h1 < (List.length x0 : Int))) else false) then (bif (bif (decide (s7.2.1.2.2.2.2.2.1.1 = s5)) then false else true) then (some ((-1 : Int), ())) else (bif (bif (decide ((0 : Int) <= h1)) then (decide (h1 < (List.length x0 : Int))) else false) then (bif (bif (decide (s7.2.1.2.2.2.2.2.1.2 = s6)) then false else true) then (some ((-1 : Int), ())) else (bif (bif (decide ((0 : Int) <= h1)) then (decide (h1 < (List.length x0 : Int))) else false) then (cl (p_b9 (s7.2.1.2.2.2.2.2.2, ((w64 (s6 + (1 : Int))), ()))) (g_b9 (s7.2.1.2.2.2.2.2.2, ((w64 (s6 + (1 : Int))), ()))) fun y0 => (bif (decide (y0.1 < (0 : Int))) then (some ((-1 : Int), ())) else (bif (bif (decide ((0 : Int) <= h1)) then (decide (h1 < (List.length x0 : Int))) else false) then (bif (bif (decide (s7.2.2.1 = y0.1)) then false else true) then (some ((-1 : Int), ())) else (bif (bif (decide ((0 : Int) <= h1)) then (decide (h1 < (List.length x0 : Int))) else false) then (bif (bif (decide (s7.2.2.2 = (w64 (y0.1 + (1 : Int))))) then false else true) then (some ((-1 : Int), ())) else (r_bi g_b9 p_b9 (x0, x1, ()) k pt0 (h0_bi x0 x1 (w64 ((w64 (y0.1 + (1 : Int))) + (1 : Int))) (w64 (h1 + (1 : Int)))))) else none)) else none))) else none)) else none)) else none)) else none)) else none)) else none)) else none)) else none)) else none) else none) else (some (h0, ()))))))))))) := by kernel_rfl
theorem S_bi (h_b9 : C_b9 p_b9 g_b9) {pre : In_bi -> Bool} {fn : In_bi -> Out_bi} (hev : ∀ x, pre x = true -> ∃ k, E_bi g_b9 p_b9 k x = some (fn x)) : C_bi pre fn := sound tysOk mixed (fn := Try.f127) rfl rfl rfl (.cons h_b9 .nil) _ hev
end
/-! bj: lheldStoStore -/
abbrev M_bj : List Vm.Mode := [.imm S_StoStore, .imm I]
abbrev R_bj : List (RK × Sh) := [(.imm, I)]
abbrev In_bj : Type := (insSh M_bj).den
abbrev Out_bj : Type := (outSh R_bj M_bj).den
abbrev C_bj (pre : In_bj -> Bool) (fn : In_bj -> Out_bj) : Prop := Sound Try.prog 53 ⟨M_bj, R_bj, pre, fn⟩
section
variable (g_bg : In_bg -> Out_bg) (p_bg : In_bg -> Bool) (g_b8 : In_b8 -> Out_b8) (p_b8 : In_b8 -> Bool) (g_bh : In_bh -> Out_bh) (p_bh : In_bh -> Bool) (g_bi : In_bi -> Out_bi) (p_bi : In_bi -> Bool)
abbrev X_bj : Ctx := ctx tys 30 (conOf [(124, ⟨M_bg, R_bg, p_bg, g_bg⟩), (125, ⟨M_b8, R_b8, p_b8, g_b8⟩), (126, ⟨M_bh, R_bh, p_bh, g_bh⟩), (127, ⟨M_bi, R_bi, p_bi, g_bi⟩)]) (keepOf []) (fun _ => [])
noncomputable abbrev E_bj (k : Nat) (x : In_bj) : Option Out_bj := evFn (X_bj g_bg p_bg g_b8 p_b8 g_bh p_bh g_bi p_bi) Try.f53 R_bj M_bj k x
variable {g_bg p_bg g_b8 p_b8 g_bh p_bh g_bi p_bi}
theorem ev_bj (k : Nat) (x0 : Dm (.imm S_StoStore)) (x1 : Dm (.imm I)) : E_bj g_bg p_bg g_b8 p_b8 g_bh p_bh g_bi p_bi k (x0, x1, ()) =
  (cl (p_bg (x0.1, (x1, ()))) (g_bg (x0.1, (x1, ()))) fun y0 => (bif (decide (y0.1 < (0 : Int))) then (some ((-1 : Int), ())) else (cl (p_b8 (x0.2.1, (y0.1, ()))) (g_b8 (x0.2.1, (y0.1, ()))) fun y1 => (bif (decide (y1.1 < (0 : Int))) then (some ((-1 : Int), ())) else (cl (p_bh (x0.2.2.1, (y1.1, ()))) (g_bh (x0.2.2.1, (y1.1, ()))) fun y2 => (bif (decide (y2.1 < (0 : Int))) then (some ((-1 : Int), ())) else (cl (p_bi (x0.2.2.2, (y2.1, ()))) (g_bi (x0.2.2.2, (y2.1, ()))) fun y3 => (bif (decide (y3.1 < (0 : Int))) then (some ((-1 : Int), ())) else (some (y3.1, ())))))))))) := by kernel_rfl
theorem S_bj (h_bg : C_bg p_bg g_bg) (h_b8 : C_b8 p_b8 g_b8) (h_bh : C_bh p_bh g_bh) (h_bi : C_bi p_bi g_bi) {pre : In_bj -> Bool} {fn : In_bj -> Out_bj} (hev : ∀ x, pre x = true -> ∃ k, E_bj g_bg p_bg g_b8 p_b8 g_bh p_bh g_bi p_bi k x = some (fn x)) : C_bj pre fn := sound tysOk mixed (fn := Try.f53) rfl rfl rfl (.cons h_bg (.cons h_b8 (.cons h_bh (.cons h_bi .nil)))) _ hev
end
/-! lFnExactStoNew -/
abbrev M_lFnExactStoNew : List Vm.Mode := [.imm L_int]
abbrev R_lFnExactStoNew : List (RK × Sh) := [(.own, .bool)]
abbrev In_lFnExactStoNew : Type := (insSh M_lFnExactStoNew).den
abbrev Out_lFnExactStoNew : Type := (outSh R_lFnExactStoNew M_lFnExactStoNew).den
abbrev C_lFnExactStoNew (pre : In_lFnExactStoNew -> Bool) (fn : In_lFnExactStoNew -> Out_lFnExactStoNew) : Prop := Sound Try.prog 10 ⟨M_lFnExactStoNew, R_lFnExactStoNew, pre, fn⟩
section
variable (g_a0 : In_a0 -> Out_a0) (p_a0 : In_a0 -> Bool) (g_a3 : In_a3 -> Out_a3) (p_a3 : In_a3 -> Bool) (g_aa : In_aa -> Out_aa) (p_aa : In_aa -> Bool) (g_av : In_av -> Out_av) (p_av : In_av -> Bool) (g_ab : In_ab -> Out_ab) (p_ab : In_ab -> Bool) (g_aw : In_aw -> Out_aw) (p_aw : In_aw -> Bool) (g_b7 : In_b7 -> Out_b7) (p_b7 : In_b7 -> Bool) (g_bj : In_bj -> Out_bj) (p_bj : In_bj -> Bool)
abbrev X_lFnExactStoNew : Ctx := ctx tys 66 (conOf [(47, ⟨M_a0, R_a0, p_a0, g_a0⟩), (46, ⟨M_a3, R_a3, p_a3, g_a3⟩), (48, ⟨M_aa, R_aa, p_aa, g_aa⟩), (49, ⟨M_av, R_av, p_av, g_av⟩), (50, ⟨M_ab, R_ab, p_ab, g_ab⟩), (51, ⟨M_aw, R_aw, p_aw, g_aw⟩), (52, ⟨M_b7, R_b7, p_b7, g_b7⟩), (53, ⟨M_bj, R_bj, p_bj, g_bj⟩)]) (keepOf []) (fun _ => [])
noncomputable abbrev E_lFnExactStoNew (k : Nat) (x : In_lFnExactStoNew) : Option Out_lFnExactStoNew := evFn (X_lFnExactStoNew g_a0 p_a0 g_a3 p_a3 g_aa p_aa g_av p_av g_ab p_ab g_aw p_aw g_b7 p_b7 g_bj p_bj) Try.f10 R_lFnExactStoNew M_lFnExactStoNew k x
variable {g_a0 p_a0 g_a3 p_a3 g_aa p_aa g_av p_av g_ab p_ab g_aw p_aw g_b7 p_b7 g_bj p_bj}
theorem ev_lFnExactStoNew (k : Nat) (x0 : Dm (.imm L_int)) : E_lFnExactStoNew g_a0 p_a0 g_a3 p_a3 g_aa p_aa g_av p_av g_ab p_ab g_aw p_aw g_b7 p_b7 g_bj p_bj k (x0, ()) =
  (bif (decide ((1048576 : Int) < (List.length x0 : Int))) then (some (true, ())) else (cl (p_a0 (x0, ())) (g_a0 (x0, ())) fun y0 => (cl (p_a3 (y0.1, ())) (g_a3 (y0.1, ())) fun y1 => (bif (p_a0 (x0, ())) then (cl (p_aa (y0.1, ())) (g_aa (y0.1, ())) fun y2 => (cl (p_av (y2.1, (y1.1, ()))) (g_av (y2.1, (y1.1, ()))) fun y3 => (bif (bif y3.1 then false else true) then (some (false, ())) else (bif (p_a0 (x0, ())) then (cl (p_ab (y0.1, (y0.1, ()))) (g_ab (y0.1, (y0.1, ()))) fun y4 => (bif (bif y4.1 then false else true) then (some (false, ())) else (cl (p_aw (y0.1, ((1 : Int), ()))) (g_aw (y0.1, ((1 : Int), ()))) fun y5 => (bif (decide (y5.1 < (0 : Int))) then (some (false, ())) else (bif (p_av (y2.1, (y1.1, ()))) then (bif (bif y3.1 then false else true) then (some (false, ())) else (cl (p_b7 (y2.1, ((1 : Int), ()))) (g_b7 (y2.1, ((1 : Int), ()))) fun y6 => (cl (p_bj (y6.2.1, ((1 : Int), ()))) (g_bj (y6.2.1, ((1 : Int), ()))) fun y7 => (bif (decide (y7.1 < (0 : Int))) then (some (false, ())) else (bif (bif (decide (y7.1 = y6.1)) then false else true) then (some (false, ())) else (bif (p_a0 (x0, ())) then (bif (p_aa (y0.1, ())) then (bif (p_av (y2.1, (y1.1, ()))) then (bif (bif y3.1 then false else true) then (some (false, ())) else (bif (p_bj (y6.2.1, ((1 : Int), ()))) then (bif (decide (y7.1 < (0 : Int))) then (some (false, ())) else (bif (bif (decide (y7.1 = y6.1)) then false else true) then (some (false, ())) else (some (true, ())))) else none)) else none) else none) else none)))))) else none))))) else none)))) else none)))) := by kernel_rfl
theorem S_lFnExactStoNew (h_a0 : C_a0 p_a0 g_a0) (h_a3 : C_a3 p_a3 g_a3) (h_aa : C_aa p_aa g_aa) (h_av : C_av p_av g_av) (h_ab : C_ab p_ab g_ab) (h_aw : C_aw p_aw g_aw) (h_b7 : C_b7 p_b7 g_b7) (h_bj : C_bj p_bj g_bj) {pre : In_lFnExactStoNew -> Bool} {fn : In_lFnExactStoNew -> Out_lFnExactStoNew} (hev : ∀ x, pre x = true -> ∃ k, E_lFnExactStoNew g_a0 p_a0 g_a3 p_a3 g_aa p_aa g_av p_av g_ab p_ab g_aw p_aw g_b7 p_b7 g_bj p_bj k x = some (fn x)) : C_lFnExactStoNew pre fn := sound tysOk mixed (fn := Try.f10) rfl rfl rfl (.cons h_a0 (.cons h_a3 (.cons h_aa (.cons h_av (.cons h_ab (.cons h_aw (.cons h_b7 (.cons h_bj .nil)))))))) _ hev
end
end Go.Proofs.Ytijolcgmciclhaa
