/- The functions of the seat, evaluated: equations, checked by the kernel. Made by a program. -/
import Derived.Test.YtddpemilmeijfaaGreatFnBatShutVmC
import Derived.Test.YtddpemilmeijfaaGreatProg
import Derived.KernelRfl
set_option linter.unusedVariables false
set_option maxRecDepth 100000
namespace Go.Proofs.YtddpemilmeijfaaGreat
open Go.Vm
noncomputable section
abbrev Lm := List Vm.Mode
abbrev Lr := List (RK × Sh)
abbrev Iq (m : Lm) : Type := (insSh m).den
abbrev Oq (r : Lr) (m : Lm) : Type := (outSh r m).den
abbrev Cq (f : FuncId) (m : Lm) (r : Lr) (pre : Iq m -> Bool) (fn : Iq m -> Oq r m) : Prop := Sound Tryz.prog f ⟨m, r, pre, fn⟩
abbrev Hq {a b : Type} (E : Nat -> a -> Option b) (pre : a -> Bool) (fn : a -> b) : Prop := ∀ x, pre x = true -> ∃ k, E k x = some (fn x)
def nF : Nat -> List Nat := fun _ => []
abbrev Dm (m : Vm.Mode) : Type := m.inSh.den
abbrev Dn (S : Sh) : Type := S.den
def mkS (a : List (Nat × AV)) (b : List (Nat × Ob)) : St := .mk (updL (fun _ => .unk) a) (updL (fun _ => .none) b)
def pt0 : List Bool := [false, true, false, true, true]
def pt1 : List Bool := [false, true, false, true]
def pt2 : List Bool := [false, true, false, true, true, true]
def pt3 : List Bool := [false, true, false, false, true, false, false, true, false, true]
def pt4 : List Bool := [false, false, true, true]
def pt5 : List Bool := [false, true, true, true, false, false, true, false, false, true, false, true, true]
def pt6 : List Bool := [false, true, false, false, true, false, true, false, true, true, true]
def pt7 : List Bool := [false, true, true, true, false, false, true, true, false, false, true, false, true, true]
def pt8 : List Bool := [false, true, false, true, true, true, true]
abbrev I : Sh := (.int .i64)
abbrev U8 : Sh := (.int .u8)
abbrev L_str : Sh := (.sl 9 .str)
abbrev L_bool : Sh := (.sl 4 .bool)
abbrev L_u8 : Sh := (.sl 5 U8)
abbrev L_int : Sh := (.sl 3 I)
abbrev S_runtime_errorAddressString : Sh := (.pair .str (.int .u64))
abbrev L_Lint : Sh := (.sl 23 L_int)
abbrev S_DecDec : Sh := (.pair I I)
abbrev S_sl20Rd : Sh := (.pair L_u8 I)
abbrev L_DecDec : Sh := (.sl 29 S_DecDec)
abbrev S_manner : Sh := (.pair .str (.pair L_int .str))
abbrev S_BatSig : Sh := (.pair I S_DecDec)
abbrev L_manner : Sh := (.sl 104 S_manner)
abbrev L_BatSig : Sh := (.sl 58 S_BatSig)
abbrev S_runtime_boundsError : Sh := (.pair I (.pair I (.pair .bool U8)))
abbrev S_SpcTest : Sh := (.pair I (.pair S_DecDec (.pair S_DecDec I)))
abbrev L_SpcTest : Sh := (.sl 53 S_SpcTest)
abbrev S_SpcSpec : Sh := (.pair L_SpcTest I)
abbrev L_SpcSpec : Sh := (.sl 83 S_SpcSpec)
abbrev S_TstTest : Sh := (.pair S_SpcTest (.pair I (.pair S_DecDec (.pair I L_DecDec))))
abbrev L_TstTest : Sh := (.sl 56 S_TstTest)
abbrev S_ReqReq : Sh := (.pair I (.pair I (.pair I (.pair I (.pair I (.pair S_DecDec L_SpcTest))))))
abbrev S_AudLine : Sh := (.pair S_ReqReq I)
abbrev L_AudLine : Sh := (.sl 176 S_AudLine)
abbrev S_BatBatch : Sh := (.pair I (.pair I (.pair L_TstTest (.pair I (.pair L_BatSig L_bool)))))
abbrev L_BatBatch : Sh := (.sl 45 S_BatBatch)
abbrev S_HouHouse : Sh := (.pair L_int (.pair L_SpcSpec L_BatBatch))
abbrev S_DayDay : Sh := S_BatSig
def tys : List (Nat × Sh × Nat) := [(2, I, 0), (3, I, 0), (4, .bool, 0), (5, U8, 0), (6, U8, 0), (7, S_runtime_boundsError, 4), (8, S_runtime_boundsError, 4), (9, .str, 0), (10, .str, 0), (11, .str, 0), (12, (.int .u64), 0), (13, S_runtime_errorAddressString, 2), (14, S_runtime_errorAddressString, 2), (21, (.int .i32), 0), (22, L_u8, 0), (23, L_int, 0), (24, L_SpcSpec, 0), (25, L_BatBatch, 0), (26, S_HouHouse, 3), (27, S_HouHouse, 3), (28, S_DecDec, 2), (29, S_DecDec, 2), (30, L_SpcTest, 0), (31, S_ReqReq, 7), (32, S_ReqReq, 7), (41, L_TstTest, 0), (42, L_BatSig, 0), (43, L_bool, 0), (44, S_BatBatch, 6), (45, S_BatBatch, 6), (52, S_SpcTest, 4), (53, S_SpcTest, 4), (54, L_DecDec, 0), (55, S_TstTest, 5), (56, S_TstTest, 5), (57, S_BatSig, 3), (58, S_BatSig, 3), (82, S_SpcSpec, 2), (83, S_SpcSpec, 2), (87, L_AudLine, 0), (96, S_BatSig, 3), (97, S_BatSig, 3), (103, S_manner, 3), (104, S_manner, 3), (135, S_sl20Rd, 2), (136, S_sl20Rd, 2), (155, L_manner, 0), (173, L_Lint, 0), (175, S_AudLine, 2), (176, S_AudLine, 2), (192, (.int .u64), 0), (197, L_str, 0), (201, (.int .u32), 0), (210, U8, 0), (211, U8, 0), (214, (.int .i32), 0), (215, (.int .i32), 0)]
theorem tysOk : tyChk Tryz.prog (ctx tys 0 (fun _ => []) (fun _ => ⟨[], [], []⟩) fun _ => []) tys = true := by kernel_rfl
theorem mixed : Tryz.prog.follows .mixedOrders = true := by kernel_rfl
abbrev M_a0 : Lm := [.imm L_u8]
abbrev R_a0 : Lr := [(.new, S_sl20Rd)]
abbrev In_a0 := Iq M_a0
abbrev Out_a0 := Oq R_a0 M_a0
abbrev C_a0 := Cq 55 M_a0 R_a0
abbrev X_a0 : Ctx := ctx tys 11 (conOf []) (keepOf []) nF
abbrev E_a0 := evFn X_a0 Tryz.f55 R_a0 M_a0
theorem ev_a0 (k : Nat) (x0 : Dm (.imm L_u8)) : E_a0 k (x0, ()) =
 (bif (decide ((2000 : Int) < (List.length x0 : Int))) then (bif (bif (decide ((0 : Int) <= (2000 : Int))) then (decide ((2000 : Int) <= (List.length x0 : Int))) else false) then (some (((takeI x0 (2000 : Int)), (0 : Int)), ())) else none) else (some ((x0, (0 : Int)), ()))) := by kernel_rfl
theorem S_a0  {pre fn} (hev : Hq E_a0 pre fn) : C_a0 pre fn := sound tysOk mixed (fn := Tryz.f55) rfl rfl rfl ConsOk.nil _ hev
abbrev M_a1 : Lm := [.pI S_sl20Rd, .imm I]
abbrev R_a1 : Lr := [(.imm, I)]
abbrev In_a1 := Iq M_a1
abbrev Out_a1 := Oq R_a1 M_a1
abbrev C_a1 := Cq 58 M_a1 R_a1
abbrev X_a1 : Ctx := ctx tys 99 (conOf []) (keepOf []) nF
abbrev E_a1 := evFn X_a1 Tryz.f58 R_a1 M_a1
theorem ev_a1 (k : Nat) (x0 : Dm (.pI S_sl20Rd)) (x1 : Dm (.imm I)) : E_a1 k (x0, x1, ()) =
 (bif (decide (x1 < (1 : Int))) then (some ((0 : Int), ((x0.1, (w64 (x0.2 + (1 : Int)))), ()))) else (bif (decide ((List.length x0.1 : Int) = (0 : Int))) then (some ((0 : Int), ((x0.1, (w64 (x0.2 + (1 : Int)))), ()))) else (bif (decide ((w64 ((w64 (x0.2 + (1 : Int))) - (1 : Int))) < (List.length x0.1 : Int))) then (bif (bif (decide ((0 : Int) <= (w64 ((w64 (x0.2 + (1 : Int))) - (1 : Int))))) then (decide ((w64 ((w64 (x0.2 + (1 : Int))) - (1 : Int))) < (List.length x0.1 : Int))) else false) then (bif (bif (decide (x1 = (0 : Int))) then false else true) then (some ((Int.tmod (w64 (rdL (e := U8) x0.1 (w64 ((w64 (x0.2 + (1 : Int))) - (1 : Int))))) x1), ((x0.1, (w64 (x0.2 + (1 : Int)))), ()))) else none) else none) else (bif (bif (decide ((List.length x0.1 : Int) = (0 : Int))) then false else true) then (bif (bif (decide ((0 : Int) <= (Int.tmod (w64 ((w64 (x0.2 + (1 : Int))) - (1 : Int))) (List.length x0.1 : Int)))) then (decide ((Int.tmod (w64 ((w64 (x0.2 + (1 : Int))) - (1 : Int))) (List.length x0.1 : Int)) < (List.length x0.1 : Int))) else false) then (bif (bif (decide ((List.length x0.1 : Int) = (0 : Int))) then false else true) then (bif (bif (decide ((0 : Int) <= (Int.tmod (w64 ((w64 ((w64 ((w64 (x0.2 + (1 : Int))) - (1 : Int))) * (7 : Int))) + (3 : Int))) (List.length x0.1 : Int)))) then (decide ((Int.tmod (w64 ((w64 ((w64 ((w64 (x0.2 + (1 : Int))) - (1 : Int))) * (7 : Int))) + (3 : Int))) (List.length x0.1 : Int)) < (List.length x0.1 : Int))) else false) then (bif (bif (decide ((List.length x0.1 : Int) = (0 : Int))) then false else true) then (bif (bif (decide ((64 : Int) = (0 : Int))) then false else true) then (bif (bif (decide (x1 = (0 : Int))) then false else true) then (some ((Int.tmod (bits BinOp.xor IntKind.i64 (w64 ((w64 ((w64 ((w64 ((w64 (rdL (e := U8) x0.1 (Int.tmod (w64 ((w64 (x0.2 + (1 : Int))) - (1 : Int))) (List.length x0.1 : Int)))) * (131 : Int))) + (w64 ((w64 (rdL (e := U8) x0.1 (Int.tmod (w64 ((w64 ((w64 ((w64 (x0.2 + (1 : Int))) - (1 : Int))) * (7 : Int))) + (3 : Int))) (List.length x0.1 : Int)))) * (1117 : Int))))) + (w64 ((w64 ((w64 (x0.2 + (1 : Int))) - (1 : Int))) * (29 : Int))))) + (w64 ((w64 (Int.tdiv (w64 ((w64 (x0.2 + (1 : Int))) - (1 : Int))) (List.length x0.1 : Int))) * (53 : Int))))) (w64 (Int.tdiv (w64 ((w64 ((w64 ((w64 ((w64 (rdL (e := U8) x0.1 (Int.tmod (w64 ((w64 (x0.2 + (1 : Int))) - (1 : Int))) (List.length x0.1 : Int)))) * (131 : Int))) + (w64 ((w64 (rdL (e := U8) x0.1 (Int.tmod (w64 ((w64 ((w64 ((w64 (x0.2 + (1 : Int))) - (1 : Int))) * (7 : Int))) + (3 : Int))) (List.length x0.1 : Int)))) * (1117 : Int))))) + (w64 ((w64 ((w64 (x0.2 + (1 : Int))) - (1 : Int))) * (29 : Int))))) + (w64 ((w64 (Int.tdiv (w64 ((w64 (x0.2 + (1 : Int))) - (1 : Int))) (List.length x0.1 : Int))) * (53 : Int))))) (64 : Int)))) x1), ((x0.1, (w64 (x0.2 + (1 : Int)))), ()))) else none) else none) else none) else none) else none) else none) else none)))) := by kernel_rfl
theorem S_a1  {pre fn} (hev : Hq E_a1 pre fn) : C_a1 pre fn := sound tysOk mixed (fn := Tryz.f58) rfl rfl rfl ConsOk.nil _ hev
abbrev M_a2 : Lm := [.pI S_sl20Rd]
abbrev R_a2 : Lr := [(.imm, L_int)]
abbrev In_a2 := Iq M_a2
abbrev Out_a2 := Oq R_a2 M_a2
abbrev C_a2 := Cq 118 M_a2 R_a2
section
variable (g_a1 : In_a1 -> Out_a1) (p_a1 : In_a1 -> Bool)
abbrev X_a2 : Ctx := ctx tys 12 (conOf [(58, ⟨M_a1, R_a1, p_a1, g_a1⟩)]) (keepOf []) nF
abbrev E_a2 := evFn (X_a2 g_a1 p_a1) Tryz.f118 R_a2 M_a2
variable {g_a1 p_a1}
theorem ev_a2 (k : Nat) (x0 : Dm (.pI S_sl20Rd)) : E_a2 g_a1 p_a1 k (x0, ()) =
 (cl (p_a1 (x0, ((4 : Int), ()))) (g_a1 (x0, ((4 : Int), ()))) fun y0 => (bif (bif (decide ((0 : Int) <= y0.1)) then (decide (y0.1 < (List.length [[(1 : Int), (2 : Int), (3 : Int), (4 : Int)], [(1 : Int), (2 : Int), (3 : Int), (4 : Int), (3 : Int)], [(2 : Int), (3 : Int), (4 : Int), (2 : Int), (1 : Int)], [(4 : Int), (2 : Int), (3 : Int)]] : Int))) else false) then (some ((rdL (e := L_int) [[(1 : Int), (2 : Int), (3 : Int), (4 : Int)], [(1 : Int), (2 : Int), (3 : Int), (4 : Int), (3 : Int)], [(2 : Int), (3 : Int), (4 : Int), (2 : Int), (1 : Int)], [(4 : Int), (2 : Int), (3 : Int)]] y0.1), (y0.2.1, ()))) else none)) := by kernel_rfl
theorem S_a2 (h_a1 : C_a1 p_a1 g_a1) {pre fn} (hev : Hq (E_a2 g_a1 p_a1) pre fn) : C_a2 pre fn := sound tysOk mixed (fn := Tryz.f118) rfl rfl rfl (.cons h_a1 .nil) _ hev
end
abbrev M_a3 : Lm := [.imm I, .imm I, .imm I]
abbrev R_a3 : Lr := [(.imm, .bool)]
abbrev In_a3 := Iq M_a3
abbrev Out_a3 := Oq R_a3 M_a3
abbrev C_a3 := Cq 66 M_a3 R_a3
abbrev X_a3 : Ctx := ctx tys 15 (conOf []) (keepOf []) nF
abbrev E_a3 := evFn X_a3 Tryz.f66 R_a3 M_a3
theorem ev_a3 (k : Nat) (x0 : Dm (.imm I)) (x1 : Dm (.imm I)) (x2 : Dm (.imm I)) : E_a3 k (x0, x1, x2, ()) =
 (bif (decide (x1 <= x0)) then (some ((decide (x0 <= x2)), ())) else (some (false, ()))) := by kernel_rfl
theorem S_a3  {pre fn} (hev : Hq E_a3 pre fn) : C_a3 pre fn := sound tysOk mixed (fn := Tryz.f66) rfl rfl rfl ConsOk.nil _ hev
abbrev M_a4 : Lm := [.imm L_int]
abbrev R_a4 : Lr := [(.own, S_HouHouse)]
abbrev In_a4 := Iq M_a4
abbrev Out_a4 := Oq R_a4 M_a4
abbrev C_a4 := Cq 117 M_a4 R_a4
section
variable (g_a3 : In_a3 -> Out_a3)
abbrev X_a4 : Ctx := ctx tys 26 (conOf [(66, ⟨M_a3, R_a3, fun _ => true, g_a3⟩)]) (keepOf [(pt0, (⟨[(0, .asis), (2, .asis), (3, .asis)], [(2, (.pair .own (.pair .own .own)))], []⟩ : Keep))]) nF
abbrev E_a4 := evFn (X_a4 g_a3) Tryz.f117 R_a4 M_a4
def h0_a4 (x0 : Dm (.imm L_int)) (h0 : Dn I) (h1 : (List (Dn I))) (h2 : (List (Dn S_SpcSpec))) (h3 : (List (Dn S_BatBatch))) : St := mkS [(0, (AV.val L_int x0)), (2, (AV.ptr 2 none [])), (3, (AV.val I h0))] [(2, (Ob.box S_HouHouse (AV.pair (AV.sref 2502 none []) (AV.pair (AV.sref 12502 none []) (AV.sref 22502 none []))))), (2502, (Ob.arr 3 I h1)), (12502, (Ob.arr 83 S_SpcSpec h2)), (22502, (Ob.arr 45 S_BatBatch h3))]
def r_a4 := rounds (X_a4 g_a3) Tryz.f117 R_a4 M_a4
variable {g_a3}
theorem ev_a4 (k : Nat) (x0 : Dm (.imm L_int)) : E_a4 g_a3 k (x0, ()) =
 (bif (bif (g_a3 ((List.length x0 : Int), ((1 : Int), ((5 : Int), ())))).1 then false else true) then (some (([], ([], [])), ())) else (r_a4 g_a3 (x0, ()) k pt0 (h0_a4 x0 (0 : Int) [] [] []))) := by kernel_rfl
theorem rd0_a4 (k : Nat) (x0 : Dm (.imm L_int)) (h0 : Dn I) (h1 : (List (Dn I))) (h2 : (List (Dn S_SpcSpec))) (h3 : (List (Dn S_BatBatch))) : r_a4 g_a3 (x0, ()) (k + 1) pt0 (h0_a4 x0 h0 h1 h2 h3) =
 (bif (decide (h0 < (List.length x0 : Int))) then (bif (bif (decide ((0 : Int) <= h0)) then (decide (h0 < (List.length x0 : Int))) else false) then (bif (bif (g_a3 ((rdL (e := I) x0 h0), ((1 : Int), ((4 : Int), ())))).1 then false else true) then (some (([], ([], [])), ())) else (r_a4 g_a3 (x0, ()) k pt0 (h0_a4 x0 (w64 (h0 + (1 : Int))) h1 h2 h3))) else none) else (bif (fitL [] x0) then (some (((List.append [] x0), ([], [])), ())) else none)) := by kernel_rfl
theorem S_a4 (h_a3 : C_a3 (fun _ => true) g_a3) {pre fn} (hev : Hq (E_a4 g_a3) pre fn) : C_a4 pre fn := sound tysOk mixed (fn := Tryz.f117) rfl rfl rfl (.cons h_a3 .nil) _ hev
end
abbrev M_a5 : Lm := [.imm I]
abbrev R_a5 : Lr := [(.imm, I)]
abbrev In_a5 := Iq M_a5
abbrev Out_a5 := Oq R_a5 M_a5
abbrev C_a5 := Cq 138 M_a5 R_a5
abbrev X_a5 : Ctx := ctx tys 13 (conOf []) (keepOf [(pt0, (⟨[(0, .asis), (3, .asis), (4, .asis)], [], []⟩ : Keep))]) nF
abbrev E_a5 := evFn X_a5 Tryz.f138 R_a5 M_a5
def h0_a5 (x0 : Dm (.imm I)) (h0 : Dn I) (h1 : Dn I) : St := mkS [(0, (AV.val I x0)), (3, (AV.val I h0)), (4, (AV.val I h1))] []
def r_a5 := rounds X_a5 Tryz.f138 R_a5 M_a5
theorem ev_a5 (k : Nat) (x0 : Dm (.imm I)) : E_a5 k (x0, ()) =
 (r_a5  (x0, ()) k pt0 (h0_a5 x0 (1 : Int) (0 : Int))) := by kernel_rfl
theorem rd0_a5 (k : Nat) (x0 : Dm (.imm I)) (h0 : Dn I) (h1 : Dn I) : r_a5  (x0, ()) (k + 1) pt0 (h0_a5 x0 h0 h1) =
 (bif (decide (h1 < x0)) then (r_a5  (x0, ()) k pt0 (h0_a5 x0 (w64 (h0 * (10 : Int))) (w64 (h1 + (1 : Int))))) else (some (h0, ()))) := by kernel_rfl
theorem S_a5  {pre fn} (hev : Hq E_a5 pre fn) : C_a5 pre fn := sound tysOk mixed (fn := Tryz.f138) rfl rfl rfl ConsOk.nil _ hev
abbrev M_a6 : Lm := [.pI S_sl20Rd, .imm I]
abbrev R_a6 : Lr := [(.imm, S_DecDec)]
abbrev In_a6 := Iq M_a6
abbrev Out_a6 := Oq R_a6 M_a6
abbrev C_a6 := Cq 93 M_a6 R_a6
section
variable (g_a1 : In_a1 -> Out_a1) (p_a1 : In_a1 -> Bool) (g_a5 : In_a5 -> Out_a5) (p_a5 : In_a5 -> Bool)
abbrev X_a6 : Ctx := ctx tys 53 (conOf [(58, ⟨M_a1, R_a1, p_a1, g_a1⟩), (138, ⟨M_a5, R_a5, p_a5, g_a5⟩)]) (keepOf []) nF
abbrev E_a6 := evFn (X_a6 g_a1 p_a1 g_a5 p_a5) Tryz.f93 R_a6 M_a6
variable {g_a1 p_a1 g_a5 p_a5}
theorem ev_a6 (k : Nat) (x0 : Dm (.pI S_sl20Rd)) (x1 : Dm (.imm I)) : E_a6 g_a1 p_a1 g_a5 p_a5 k (x0, x1, ()) =
 (cl (p_a1 (x0, ((4 : Int), ()))) (g_a1 (x0, ((4 : Int), ()))) fun y0 => (cl (p_a5 (y0.1, ())) (g_a5 (y0.1, ())) fun y1 => (bif (p_a5 (y0.1, ())) then (cl (p_a1 (y0.2.1, ((256 : Int), ()))) (g_a1 (y0.2.1, ((256 : Int), ()))) fun y2 => (cl (p_a1 (y2.2.1, ((9 : Int), ()))) (g_a1 (y2.2.1, ((9 : Int), ()))) fun y3 => (bif (bif (decide ((0 : Int) <= y3.1)) then (decide (y3.1 < (List.length [(0 : Int), (5 : Int), (15 : Int), (149 : Int), (995 : Int), (-25 : Int), (w64 ((9999 : Int) * y1.1)), (w64 ((-9999 : Int) * y1.1)), (w64 (y2.1 * (7 : Int)))] : Int))) else false) then (cl (p_a1 (y3.2.1, (x1, ()))) (g_a1 (y3.2.1, (x1, ()))) fun y4 => (bif (decide (y4.1 = (0 : Int))) then (cl (p_a1 (y4.2.1, ((2 : Int), ()))) (g_a1 (y4.2.1, ((2 : Int), ()))) fun y5 => (bif (decide (y5.1 = (0 : Int))) then (cl (p_a1 (y5.2.1, ((2 : Int), ()))) (g_a1 (y5.2.1, ((2 : Int), ()))) fun y6 => (bif (bif (decide ((0 : Int) <= y6.1)) then (decide (y6.1 < (List.length [(-1 : Int), (4 : Int)] : Int))) else false) then (some (((rdL (e := I) [(0 : Int), (5 : Int), (15 : Int), (149 : Int), (995 : Int), (-25 : Int), (w64 ((9999 : Int) * y1.1)), (w64 ((-9999 : Int) * y1.1)), (w64 (y2.1 * (7 : Int)))] y3.1), (rdL (e := I) [(-1 : Int), (4 : Int)] y6.1)), (y6.2.1, ()))) else none)) else (bif (p_a5 (y0.1, ())) then (bif (p_a5 (y0.1, ())) then (cl (p_a1 (y5.2.1, ((2 : Int), ()))) (g_a1 (y5.2.1, ((2 : Int), ()))) fun y7 => (bif (bif (decide ((0 : Int) <= y7.1)) then (decide (y7.1 < (List.length [(w64 ((w64 ((9999 : Int) * y1.1)) + (1 : Int))), (w64 ((w64 ((-9999 : Int) * y1.1)) - (1 : Int)))] : Int))) else false) then (some (((rdL (e := I) [(w64 ((w64 ((9999 : Int) * y1.1)) + (1 : Int))), (w64 ((w64 ((-9999 : Int) * y1.1)) - (1 : Int)))] y7.1), y0.1), (y7.2.1, ()))) else none)) else none) else none))) else (some (((rdL (e := I) [(0 : Int), (5 : Int), (15 : Int), (149 : Int), (995 : Int), (-25 : Int), (w64 ((9999 : Int) * y1.1)), (w64 ((-9999 : Int) * y1.1)), (w64 (y2.1 * (7 : Int)))] y3.1), y0.1), (y4.2.1, ()))))) else none))) else none))) := by kernel_rfl
theorem S_a6 (h_a1 : C_a1 p_a1 g_a1) (h_a5 : C_a5 p_a5 g_a5) {pre fn} (hev : Hq (E_a6 g_a1 p_a1 g_a5 p_a5) pre fn) : C_a6 pre fn := sound tysOk mixed (fn := Tryz.f93) rfl rfl rfl (.cons h_a1 (.cons h_a5 .nil)) _ hev
end
abbrev M_a7 : Lm := [.pI S_sl20Rd, .imm I, .imm I]
abbrev R_a7 : Lr := [(.imm, S_SpcTest)]
abbrev In_a7 := Iq M_a7
abbrev Out_a7 := Oq R_a7 M_a7
abbrev C_a7 := Cq 177 M_a7 R_a7
section
variable (g_a1 : In_a1 -> Out_a1) (p_a1 : In_a1 -> Bool) (g_a6 : In_a6 -> Out_a6) (p_a6 : In_a6 -> Bool)
abbrev X_a7 : Ctx := ctx tys 55 (conOf [(58, ⟨M_a1, R_a1, p_a1, g_a1⟩), (93, ⟨M_a6, R_a6, p_a6, g_a6⟩)]) (keepOf []) nF
abbrev E_a7 := evFn (X_a7 g_a1 p_a1 g_a6 p_a6) Tryz.f177 R_a7 M_a7
variable {g_a1 p_a1 g_a6 p_a6}
theorem ev_a7 (k : Nat) (x0 : Dm (.pI S_sl20Rd)) (x1 : Dm (.imm I)) (x2 : Dm (.imm I)) : E_a7 g_a1 p_a1 g_a6 p_a6 k (x0, x1, x2, ()) =
 (cl (p_a1 (x0, ((3 : Int), ()))) (g_a1 (x0, ((3 : Int), ()))) fun y0 => (bif (bif (decide ((0 : Int) <= y0.1)) then (decide (y0.1 < (List.length [(0 : Int), (10 : Int), (-5 : Int)] : Int))) else false) then (cl (p_a1 (y0.2.1, ((3 : Int), ()))) (g_a1 (y0.2.1, ((3 : Int), ()))) fun y1 => (bif (bif (decide ((0 : Int) <= y1.1)) then (decide (y1.1 < (List.length [(20 : Int), (100 : Int), (15 : Int)] : Int))) else false) then (cl (p_a1 (y1.2.1, ((3 : Int), ()))) (g_a1 (y1.2.1, ((3 : Int), ()))) fun y2 => (cl (p_a1 (y2.2.1, (x2, ()))) (g_a1 (y2.2.1, (x2, ()))) fun y3 => (bif (decide (y3.1 = (0 : Int))) then (cl (p_a1 (y3.2.1, ((4 : Int), ()))) (g_a1 (y3.2.1, ((4 : Int), ()))) fun y4 => (bif (decide (y4.1 = (0 : Int))) then (cl (p_a1 (y4.2.1, ((3 : Int), ()))) (g_a1 (y4.2.1, ((3 : Int), ()))) fun y5 => (bif (bif (decide ((0 : Int) <= y5.1)) then (decide (y5.1 < (List.length [(0 : Int), (5 : Int), (1 : Int)] : Int))) else false) then (some (((rdL (e := I) [(0 : Int), (5 : Int), (1 : Int)] y5.1), (((rdL (e := I) [(0 : Int), (10 : Int), (-5 : Int)] y0.1), (1 : Int)), (((rdL (e := I) [(20 : Int), (100 : Int), (15 : Int)] y1.1), (1 : Int)), y2.1))), (y5.2.1, ()))) else none)) else (bif (decide (y4.1 = (1 : Int))) then (cl (p_a6 (y4.2.1, ((2 : Int), ()))) (g_a6 (y4.2.1, ((2 : Int), ()))) fun y6 => (some ((x1, (y6.1, (((rdL (e := I) [(20 : Int), (100 : Int), (15 : Int)] y1.1), (1 : Int)), y2.1))), (y6.2.1, ())))) else (bif (decide (y4.1 = (2 : Int))) then (cl (p_a6 (y4.2.1, ((2 : Int), ()))) (g_a6 (y4.2.1, ((2 : Int), ()))) fun y7 => (some ((x1, (((rdL (e := I) [(0 : Int), (10 : Int), (-5 : Int)] y0.1), (1 : Int)), (y7.1, y2.1))), (y7.2.1, ())))) else (cl (p_a1 (y4.2.1, ((3 : Int), ()))) (g_a1 (y4.2.1, ((3 : Int), ()))) fun y8 => (bif (bif (decide ((0 : Int) <= y8.1)) then (decide (y8.1 < (List.length [(-1 : Int), (4 : Int), (3 : Int)] : Int))) else false) then (some ((x1, (((rdL (e := I) [(0 : Int), (10 : Int), (-5 : Int)] y0.1), (1 : Int)), (((rdL (e := I) [(20 : Int), (100 : Int), (15 : Int)] y1.1), (1 : Int)), (rdL (e := I) [(-1 : Int), (4 : Int), (3 : Int)] y8.1)))), (y8.2.1, ()))) else none)))))) else (some ((x1, (((rdL (e := I) [(0 : Int), (10 : Int), (-5 : Int)] y0.1), (1 : Int)), (((rdL (e := I) [(20 : Int), (100 : Int), (15 : Int)] y1.1), (1 : Int)), y2.1))), (y3.2.1, ())))))) else none)) else none)) := by kernel_rfl
theorem S_a7 (h_a1 : C_a1 p_a1 g_a1) (h_a6 : C_a6 p_a6 g_a6) {pre fn} (hev : Hq (E_a7 g_a1 p_a1 g_a6 p_a6) pre fn) : C_a7 pre fn := sound tysOk mixed (fn := Tryz.f177) rfl rfl rfl (.cons h_a1 (.cons h_a6 .nil)) _ hev
end
abbrev M_a8 : Lm := [.pI S_sl20Rd, .imm I]
abbrev R_a8 : Lr := [(.own, L_SpcTest)]
abbrev In_a8 := Iq M_a8
abbrev Out_a8 := Oq R_a8 M_a8
abbrev C_a8 := Cq 121 M_a8 R_a8
section
variable (g_a1 : In_a1 -> Out_a1) (p_a1 : In_a1 -> Bool) (g_a7 : In_a7 -> Out_a7) (p_a7 : In_a7 -> Bool)
abbrev X_a8 : Ctx := ctx tys 41 (conOf [(58, ⟨M_a1, R_a1, p_a1, g_a1⟩), (177, ⟨M_a7, R_a7, p_a7, g_a7⟩)]) (keepOf [(pt0, (⟨[(0, .asis), (1, .asis), (5, .own), (6, .asis)], [(5000, .asis)], []⟩ : Keep))]) nF
abbrev E_a8 := evFn (X_a8 g_a1 p_a1 g_a7 p_a7) Tryz.f121 R_a8 M_a8
def h0_a8 (x0 : Dm (.pI S_sl20Rd)) (x1 : Dm (.imm I)) (h0 : Dn I) (h1 : Dn S_sl20Rd) (h2 : (List (Dn S_SpcTest))) : St := mkS [(0, (AV.ptr 5000 none [])), (1, (AV.val I x1)), (5, (AV.sref 2505 none [])), (6, (AV.val I h0))] [(5000, (Ob.box S_sl20Rd (AV.val S_sl20Rd h1))), (2505, (Ob.arr 53 S_SpcTest h2))]
def r_a8 := rounds (X_a8 g_a1 p_a1 g_a7 p_a7) Tryz.f121 R_a8 M_a8
variable {g_a1 p_a1 g_a7 p_a7}
theorem ev_a8 (k : Nat) (x0 : Dm (.pI S_sl20Rd)) (x1 : Dm (.imm I)) : E_a8 g_a1 p_a1 g_a7 p_a7 k (x0, x1, ()) =
 (r_a8 g_a1 p_a1 g_a7 p_a7 (x0, x1, ()) k pt0 (h0_a8 x0 x1 (1 : Int) x0 [])) := by kernel_rfl
theorem rd0_a8 (k : Nat) (x0 : Dm (.pI S_sl20Rd)) (x1 : Dm (.imm I)) (h0 : Dn I) (h1 : Dn S_sl20Rd) (h2 : (List (Dn S_SpcTest))) : r_a8 g_a1 p_a1 g_a7 p_a7 (x0, x1, ()) (k + 1) pt0 (h0_a8 x0 x1 h0 h1 h2) =
 (bif (decide (h0 <= (4 : Int))) then (cl (p_a1 (h1, ((2 : Int), ()))) (g_a1 (h1, ((2 : Int), ()))) fun y0 => (bif (decide (y0.1 = (0 : Int))) then (cl (p_a7 (y0.2.1, (h0, (x1, ())))) (g_a7 (y0.2.1, (h0, (x1, ())))) fun y1 => (bif (fitL h2 [(y1.1)]) then (r_a8 g_a1 p_a1 g_a7 p_a7 (x0, x1, ()) k pt0 (h0_a8 x0 x1 (w64 (h0 + (1 : Int))) (y1.2.1) (List.append h2 [(y1.1)]))) else none)) else (r_a8 g_a1 p_a1 g_a7 p_a7 (x0, x1, ()) k pt0 (h0_a8 x0 x1 (w64 (h0 + (1 : Int))) (y0.2.1) h2)))) else (bif (decide ((List.length h2 : Int) = (0 : Int))) then (cl (p_a7 (h1, ((2 : Int), ((9999 : Int), ())))) (g_a7 (h1, ((2 : Int), ((9999 : Int), ())))) fun y2 => (bif (fitL h2 [(y2.1)]) then (cl (p_a1 (y2.2.1, (x1, ()))) (g_a1 (y2.2.1, (x1, ()))) fun y3 => (bif (decide (y3.1 = (0 : Int))) then (bif (bif (decide ((0 : Int) <= (0 : Int))) then (decide ((0 : Int) < (List.length (List.append h2 [(y2.1)]) : Int))) else false) then (bif (fitL (List.append h2 [(y2.1)]) [(rdL (e := S_SpcTest) (List.append h2 [(y2.1)]) (0 : Int))]) then (some ((List.append (List.append h2 [(y2.1)]) [(rdL (e := S_SpcTest) (List.append h2 [(y2.1)]) (0 : Int))]), (y3.2.1, ()))) else none) else none) else (some ((List.append h2 [(y2.1)]), (y3.2.1, ()))))) else none)) else (cl (p_a1 (h1, (x1, ()))) (g_a1 (h1, (x1, ()))) fun y4 => (bif (decide (y4.1 = (0 : Int))) then (bif (bif (decide ((0 : Int) <= (0 : Int))) then (decide ((0 : Int) < (List.length h2 : Int))) else false) then (bif (fitL h2 [(rdL (e := S_SpcTest) h2 (0 : Int))]) then (some ((List.append h2 [(rdL (e := S_SpcTest) h2 (0 : Int))]), (y4.2.1, ()))) else none) else none) else (some (h2, (y4.2.1, ()))))))) := by kernel_rfl
theorem S_a8 (h_a1 : C_a1 p_a1 g_a1) (h_a7 : C_a7 p_a7 g_a7) {pre fn} (hev : Hq (E_a8 g_a1 p_a1 g_a7 p_a7) pre fn) : C_a8 pre fn := sound tysOk mixed (fn := Tryz.f121) rfl rfl rfl (.cons h_a1 (.cons h_a7 .nil)) _ hev
end
abbrev M_a9 : Lm := [.imm L_SpcSpec]
abbrev R_a9 : Lr := [(.imm, I)]
abbrev In_a9 := Iq M_a9
abbrev Out_a9 := Oq R_a9 M_a9
abbrev C_a9 := Cq 172 M_a9 R_a9
abbrev X_a9 : Ctx := ctx tys 17 (conOf []) (keepOf [(pt1, (⟨[(0, .asis), (3, .asis)], [], []⟩ : Keep))]) nF
abbrev E_a9 := evFn X_a9 Tryz.f172 R_a9 M_a9
def h0_a9 (x0 : Dm (.imm L_SpcSpec)) (h0 : Dn I) : St := mkS [(0, (AV.val L_SpcSpec x0)), (3, (AV.val I h0))] []
def r_a9 := rounds X_a9 Tryz.f172 R_a9 M_a9
theorem ev_a9 (k : Nat) (x0 : Dm (.imm L_SpcSpec)) : E_a9 k (x0, ()) =
 (r_a9  (x0, ()) k pt1 (h0_a9 x0 (0 : Int))) := by kernel_rfl
theorem rd0_a9 (k : Nat) (x0 : Dm (.imm L_SpcSpec)) (h0 : Dn I) : r_a9  (x0, ()) (k + 1) pt1 (h0_a9 x0 h0) =
 (bif (decide (h0 < (List.length x0 : Int))) then (bif (bif (decide ((0 : Int) <= h0)) then (decide (h0 < (List.length x0 : Int))) else false) then (bif (decide ((rdL (e := S_SpcSpec) x0 h0).2 = (2 : Int))) then (some (h0, ())) else (r_a9  (x0, ()) k pt1 (h0_a9 x0 (w64 (h0 + (1 : Int)))))) else none) else (some ((-1 : Int), ()))) := by kernel_rfl
theorem S_a9  {pre fn} (hev : Hq E_a9 pre fn) : C_a9 pre fn := sound tysOk mixed (fn := Tryz.f172) rfl rfl rfl ConsOk.nil _ hev
abbrev M_aa : Lm := [.imm S_ReqReq]
abbrev R_aa : Lr := [(.imm, S_ReqReq)]
abbrev In_aa := Iq M_aa
abbrev Out_aa := Oq R_aa M_aa
abbrev C_aa := Cq 68 M_aa R_aa
abbrev X_aa : Ctx := ctx tys 61 (conOf []) (keepOf []) nF
abbrev E_aa := evFn X_aa Tryz.f68 R_aa M_aa
theorem ev_aa (k : Nat) (x0 : Dm (.imm S_ReqReq)) : E_aa k (x0, ()) =
 (bif (decide (x0.2.1 = (1 : Int))) then (some ((x0.1, (x0.2.1, ((0 : Int), ((0 : Int), ((0 : Int), (((0 : Int), (0 : Int)), x0.2.2.2.2.2.2)))))), ())) else (bif (decide (x0.2.1 = (2 : Int))) then (some ((x0.1, (x0.2.1, ((0 : Int), ((0 : Int), (x0.2.2.2.2.1, (((0 : Int), (0 : Int)), [])))))), ())) else (bif (decide (x0.2.1 = (3 : Int))) then (some ((x0.1, (x0.2.1, ((0 : Int), ((0 : Int), (x0.2.2.2.2.1, (((0 : Int), (0 : Int)), [])))))), ())) else (bif (decide (x0.2.1 = (4 : Int))) then (some ((x0.1, (x0.2.1, (x0.2.2.1, (x0.2.2.2.1, ((0 : Int), (x0.2.2.2.2.2.1, [])))))), ())) else (bif (decide (x0.2.1 = (6 : Int))) then (some ((x0.1, (x0.2.1, (x0.2.2.1, (x0.2.2.2.1, ((0 : Int), (x0.2.2.2.2.2.1, [])))))), ())) else (bif (decide (x0.2.1 = (5 : Int))) then (some ((x0.1, (x0.2.1, (x0.2.2.1, (x0.2.2.2.1, (x0.2.2.2.2.1, (((0 : Int), (0 : Int)), [])))))), ())) else (bif (decide (x0.2.1 = (8 : Int))) then (some ((x0.1, (x0.2.1, (x0.2.2.1, ((0 : Int), (x0.2.2.2.2.1, (((0 : Int), (0 : Int)), [])))))), ())) else (some ((x0.1, (x0.2.1, (x0.2.2.1, ((0 : Int), ((0 : Int), (((0 : Int), (0 : Int)), [])))))), ()))))))))) := by kernel_rfl
theorem S_aa  {pre fn} (hev : Hq E_aa pre fn) : C_aa pre fn := sound tysOk mixed (fn := Tryz.f68) rfl rfl rfl ConsOk.nil _ hev
abbrev M_ab : Lm := [.imm S_DecDec]
abbrev R_ab : Lr := [(.imm, .bool)]
abbrev In_ab := Iq M_ab
abbrev Out_ab := Oq R_ab M_ab
abbrev C_ab := Cq 69 M_ab R_ab
section
variable (g_a3 : In_a3 -> Out_a3) (g_a5 : In_a5 -> Out_a5) (p_a5 : In_a5 -> Bool)
abbrev X_ab : Ctx := ctx tys 19 (conOf [(66, ⟨M_a3, R_a3, fun _ => true, g_a3⟩), (138, ⟨M_a5, R_a5, p_a5, g_a5⟩)]) (keepOf []) nF
abbrev E_ab := evFn (X_ab g_a3 g_a5 p_a5) Tryz.f69 R_ab M_ab
variable {g_a3 g_a5 p_a5}
theorem ev_ab (k : Nat) (x0 : Dm (.imm S_DecDec)) : E_ab g_a3 g_a5 p_a5 k (x0, ()) =
 (bif (g_a3 (x0.2, ((0 : Int), ((3 : Int), ())))).1 then (bif (p_a5 (x0.2, ())) then (bif (p_a5 (x0.2, ())) then (some ((g_a3 (x0.1, ((w64 ((-9999 : Int) * (g_a5 (x0.2, ())).1)), ((w64 ((9999 : Int) * (g_a5 (x0.2, ())).1)), ())))).1, ())) else none) else none) else (some (false, ()))) := by kernel_rfl
theorem S_ab (h_a3 : C_a3 (fun _ => true) g_a3) (h_a5 : C_a5 p_a5 g_a5) {pre fn} (hev : Hq (E_ab g_a3 g_a5 p_a5) pre fn) : C_ab pre fn := sound tysOk mixed (fn := Tryz.f69) rfl rfl rfl (.cons h_a3 (.cons h_a5 .nil)) _ hev
end
abbrev M_ac : Lm := [.imm I, .imm I]
abbrev R_ac : Lr := [(.imm, I)]
abbrev In_ac := Iq M_ac
abbrev Out_ac := Oq R_ac M_ac
abbrev C_ac := Cq 210 M_ac R_ac
section
variable (g_ac : In_ac -> Out_ac) (p_ac : In_ac -> Bool)
abbrev X_ac : Ctx := ctx tys 19 (conOf [(210, ⟨M_ac, R_ac, p_ac, g_ac⟩)]) (keepOf []) nF
abbrev E_ac := evFn (X_ac g_ac p_ac) Tryz.f210 R_ac M_ac
variable {g_ac p_ac}
theorem ev_ac (k : Nat) (x0 : Dm (.imm I)) (x1 : Dm (.imm I)) : E_ac g_ac p_ac k (x0, x1, ()) =
 (bif (decide (x0 < (0 : Int))) then (bif (p_ac ((w64 ((0 : Int) - x0)), (x1, ()))) then (some ((w64 ((0 : Int) - (g_ac ((w64 ((0 : Int) - x0)), (x1, ()))).1)), ())) else none) else (bif (bif (decide ((w64 ((2 : Int) * x1)) = (0 : Int))) then false else true) then (some ((w64 (Int.tdiv (w64 ((w64 ((2 : Int) * x0)) + x1)) (w64 ((2 : Int) * x1)))), ())) else none)) := by kernel_rfl
theorem S_ac (h_ac : C_ac p_ac g_ac) {pre fn} (hev : Hq (E_ac g_ac p_ac) pre fn) : C_ac pre fn := sound tysOk mixed (fn := Tryz.f210) rfl rfl rfl (.cons h_ac .nil) _ hev
end
theorem S0_ac {fn : In_ac -> Out_ac} : C_ac (fun _ => false) fn := sound tysOk mixed (fn := Tryz.f210) (n := 19) (keep := keepOf []) (fz := fun _ => []) rfl rfl rfl ConsOk.nil _ fun x hx => by cases hx
abbrev M_ad : Lm := [.imm S_DecDec, .imm I]
abbrev R_ad : Lr := [(.imm, S_DecDec)]
abbrev In_ad := Iq M_ad
abbrev Out_ad := Oq R_ad M_ad
abbrev C_ad := Cq 192 M_ad R_ad
section
variable (g_a5 : In_a5 -> Out_a5) (p_a5 : In_a5 -> Bool) (g_ac : In_ac -> Out_ac) (p_ac : In_ac -> Bool)
abbrev X_ad : Ctx := ctx tys 29 (conOf [(138, ⟨M_a5, R_a5, p_a5, g_a5⟩), (210, ⟨M_ac, R_ac, p_ac, g_ac⟩)]) (keepOf []) nF
abbrev E_ad := evFn (X_ad g_a5 p_a5 g_ac p_ac) Tryz.f192 R_ad M_ad
variable {g_a5 p_a5 g_ac p_ac}
theorem ev_ad (k : Nat) (x0 : Dm (.imm S_DecDec)) (x1 : Dm (.imm I)) : E_ad g_a5 p_a5 g_ac p_ac k (x0, x1, ()) =
 (bif (decide (x0.2 <= x1)) then (bif (p_a5 ((w64 (x1 - x0.2)), ())) then (some (((w64 (x0.1 * (g_a5 ((w64 (x1 - x0.2)), ())).1)), x1), ())) else none) else (bif (p_a5 ((w64 (x0.2 - x1)), ())) then (bif (p_ac (x0.1, ((g_a5 ((w64 (x0.2 - x1)), ())).1, ()))) then (some (((g_ac (x0.1, ((g_a5 ((w64 (x0.2 - x1)), ())).1, ()))).1, x1), ())) else none) else none)) := by kernel_rfl
theorem S_ad (h_a5 : C_a5 p_a5 g_a5) (h_ac : C_ac p_ac g_ac) {pre fn} (hev : Hq (E_ad g_a5 p_a5 g_ac p_ac) pre fn) : C_ad pre fn := sound tysOk mixed (fn := Tryz.f192) rfl rfl rfl (.cons h_a5 (.cons h_ac .nil)) _ hev
end
abbrev M_ae : Lm := [.imm S_DecDec, .imm I]
abbrev R_ae : Lr := [(.imm, S_DecDec)]
abbrev In_ae := Iq M_ae
abbrev Out_ae := Oq R_ae M_ae
abbrev C_ae := Cq 159 M_ae R_ae
section
variable (g_ab : In_ab -> Out_ab) (g_a3 : In_a3 -> Out_a3) (g_ad : In_ad -> Out_ad) (p_ad : In_ad -> Bool)
abbrev X_ae : Ctx := ctx tys 17 (conOf [(69, ⟨M_ab, R_ab, fun _ => true, g_ab⟩), (66, ⟨M_a3, R_a3, fun _ => true, g_a3⟩), (192, ⟨M_ad, R_ad, p_ad, g_ad⟩)]) (keepOf []) nF
abbrev E_ae := evFn (X_ae g_ab g_a3 g_ad p_ad) Tryz.f159 R_ae M_ae
variable {g_ab g_a3 g_ad p_ad}
theorem ev_ae (k : Nat) (x0 : Dm (.imm S_DecDec)) (x1 : Dm (.imm I)) : E_ae g_ab g_a3 g_ad p_ad k (x0, x1, ()) =
 (bif (bif (g_ab (x0, ())).1 then false else true) then (some (((0 : Int), (0 : Int)), ())) else (bif (bif (g_a3 (x1, ((0 : Int), ((3 : Int), ())))).1 then false else true) then (some (((0 : Int), (0 : Int)), ())) else (bif (p_ad (x0, (x1, ()))) then (some ((g_ad (x0, (x1, ()))).1, ())) else none))) := by kernel_rfl
theorem S_ae (h_ab : C_ab (fun _ => true) g_ab) (h_a3 : C_a3 (fun _ => true) g_a3) (h_ad : C_ad p_ad g_ad) {pre fn} (hev : Hq (E_ae g_ab g_a3 g_ad p_ad) pre fn) : C_ae pre fn := sound tysOk mixed (fn := Tryz.f159) rfl rfl rfl (.cons h_ab (.cons h_a3 (.cons h_ad .nil))) _ hev
end
abbrev M_af : Lm := [.pI S_sl20Rd, .imm S_SpcTest]
abbrev R_af : Lr := [(.imm, S_DecDec)]
abbrev In_af := Iq M_af
abbrev Out_af := Oq R_af M_af
abbrev C_af := Cq 94 M_af R_af
section
variable (g_ae : In_ae -> Out_ae) (g_a1 : In_a1 -> Out_a1) (p_a1 : In_a1 -> Bool)
abbrev X_af : Ctx := ctx tys 50 (conOf [(159, ⟨M_ae, R_ae, fun _ => true, g_ae⟩), (58, ⟨M_a1, R_a1, p_a1, g_a1⟩)]) (keepOf []) nF
abbrev E_af := evFn (X_af g_ae g_a1 p_a1) Tryz.f94 R_af M_af
variable {g_ae g_a1 p_a1}
theorem ev_af (k : Nat) (x0 : Dm (.pI S_sl20Rd)) (x1 : Dm (.imm S_SpcTest)) : E_af g_ae g_a1 p_a1 k (x0, x1, ()) =
 (cl (p_a1 (x0, ((5 : Int), ()))) (g_a1 (x0, ((5 : Int), ()))) fun y0 => (bif (decide (y0.1 = (0 : Int))) then (cl (p_a1 (y0.2.1, ((4 : Int), ()))) (g_a1 (y0.2.1, ((4 : Int), ()))) fun y1 => (bif (bif (decide ((0 : Int) <= y1.1)) then (decide (y1.1 < (List.length [(1 : Int), (4 : Int), (5 : Int), (30 : Int)] : Int))) else false) then (some (((w64 ((g_ae (x1.2.2.1, ((2 : Int), ()))).1.1 + (rdL (e := I) [(1 : Int), (4 : Int), (5 : Int), (30 : Int)] y1.1))), (g_ae (x1.2.2.1, ((2 : Int), ()))).1.2), (y1.2.1, ()))) else none)) else (bif (decide (y0.1 = (1 : Int))) then (cl (p_a1 (y0.2.1, ((4 : Int), ()))) (g_a1 (y0.2.1, ((4 : Int), ()))) fun y2 => (bif (bif (decide ((0 : Int) <= y2.1)) then (decide (y2.1 < (List.length [(1 : Int), (4 : Int), (5 : Int), (30 : Int)] : Int))) else false) then (some (((w64 ((g_ae (x1.2.1, ((2 : Int), ()))).1.1 - (rdL (e := I) [(1 : Int), (4 : Int), (5 : Int), (30 : Int)] y2.1))), (g_ae (x1.2.1, ((2 : Int), ()))).1.2), (y2.2.1, ()))) else none)) else (bif (decide (y0.1 = (2 : Int))) then (cl (p_a1 (y0.2.1, ((6 : Int), ()))) (g_a1 (y0.2.1, ((6 : Int), ()))) fun y3 => (some (((w64 ((g_ae (x1.2.2.1, ((2 : Int), ()))).1.1 - y3.1)), (g_ae (x1.2.2.1, ((2 : Int), ()))).1.2), (y3.2.1, ())))) else (bif (decide (y0.1 = (3 : Int))) then (some ((g_ae (x1.2.1, ((1 : Int), ()))).1, (y0.2.1, ()))) else (some ((g_ae (x1.2.2.1, ((2 : Int), ()))).1, (y0.2.1, ())))))))) := by kernel_rfl
theorem S_af (h_ae : C_ae (fun _ => true) g_ae) (h_a1 : C_a1 p_a1 g_a1) {pre fn} (hev : Hq (E_af g_ae g_a1 p_a1) pre fn) : C_af pre fn := sound tysOk mixed (fn := Tryz.f94) rfl rfl rfl (.cons h_ae (.cons h_a1 .nil)) _ hev
end
abbrev M_ag : Lm := [.pI S_sl20Rd, .imm S_SpcTest]
abbrev R_ag : Lr := [(.imm, S_DecDec)]
abbrev In_ag := Iq M_ag
abbrev Out_ag := Oq R_ag M_ag
abbrev C_ag := Cq 200 M_ag R_ag
section
variable (g_a1 : In_a1 -> Out_a1) (p_a1 : In_a1 -> Bool) (g_af : In_af -> Out_af) (p_af : In_af -> Bool)
abbrev X_ag : Ctx := ctx tys 12 (conOf [(58, ⟨M_a1, R_a1, p_a1, g_a1⟩), (94, ⟨M_af, R_af, p_af, g_af⟩)]) (keepOf []) nF
abbrev E_ag := evFn (X_ag g_a1 p_a1 g_af p_af) Tryz.f200 R_ag M_ag
variable {g_a1 p_a1 g_af p_af}
theorem ev_ag (k : Nat) (x0 : Dm (.pI S_sl20Rd)) (x1 : Dm (.imm S_SpcTest)) : E_ag g_a1 p_a1 g_af p_af k (x0, x1, ()) =
 (cl (p_a1 (x0, ((4 : Int), ()))) (g_a1 (x0, ((4 : Int), ()))) fun y0 => (bif (decide (y0.1 = (0 : Int))) then (cl (p_af (y0.2.1, (x1, ()))) (g_af (y0.2.1, (x1, ()))) fun y1 => (some (y1.1, (y1.2.1, ())))) else (some (((150 : Int), (2 : Int)), (y0.2.1, ()))))) := by kernel_rfl
theorem S_ag (h_a1 : C_a1 p_a1 g_a1) (h_af : C_af p_af g_af) {pre fn} (hev : Hq (E_ag g_a1 p_a1 g_af p_af) pre fn) : C_ag pre fn := sound tysOk mixed (fn := Tryz.f200) rfl rfl rfl (.cons h_a1 (.cons h_af .nil)) _ hev
end
abbrev M_ah : Lm := [.imm I, .imm I]
abbrev R_ah : Lr := [(.imm, I)]
abbrev In_ah := Iq M_ah
abbrev Out_ah := Oq R_ah M_ah
abbrev C_ah := Cq 153 M_ah R_ah
abbrev X_ah : Ctx := ctx tys 13 (conOf []) (keepOf []) nF
abbrev E_ah := evFn X_ah Tryz.f153 R_ah M_ah
theorem ev_ah (k : Nat) (x0 : Dm (.imm I)) (x1 : Dm (.imm I)) : E_ah k (x0, x1, ()) =
 (bif (bif (decide ((999983 : Int) = (0 : Int))) then false else true) then (bif (bif (decide ((999983 : Int) = (0 : Int))) then false else true) then (some ((Int.tmod (w64 ((w64 ((w64 ((w64 (x0 * (8191 : Int))) + (Int.tmod x1 (999983 : Int)))) + (999983 : Int))) + (7 : Int))) (999983 : Int)), ())) else none) else none) := by kernel_rfl
theorem S_ah  {pre fn} (hev : Hq E_ah pre fn) : C_ah pre fn := sound tysOk mixed (fn := Tryz.f153) rfl rfl rfl ConsOk.nil _ hev
abbrev M_ai : Lm := [.imm S_BatBatch]
abbrev R_ai : Lr := [(.imm, I)]
abbrev In_ai := Iq M_ai
abbrev Out_ai := Oq R_ai M_ai
abbrev C_ai := Cq 87 M_ai R_ai
section
variable (g_ah : In_ah -> Out_ah)
abbrev X_ai : Ctx := ctx tys 79 (conOf [(153, ⟨M_ah, R_ah, fun _ => true, g_ah⟩)]) (keepOf [(pt2, (⟨[(1, .asis), (3, .asis), (7, .asis)], [(1, .asis)], []⟩ : Keep)), (pt5, (⟨[(1, .asis), (3, .asis), (4, .asis), (5, .asis), (6, .asis)], [(1, .asis), (5, .asis)], []⟩ : Keep)), (pt0, (⟨[(1, .asis), (3, .asis), (4, .asis)], [(1, .asis)], []⟩ : Keep))]) nF
abbrev E_ai := evFn (X_ai g_ah) Tryz.f87 R_ai M_ai
def h0_ai (x0 : Dm (.imm S_BatBatch)) (h0 : Dn I) (h1 : Dn I) : St := mkS [(1, (AV.ptr 1 none [])), (3, (AV.val I h0)), (4, (AV.val I h1))] [(1, (Ob.box S_BatBatch (AV.val S_BatBatch x0)))]
def h1_ai (x0 : Dm (.imm S_BatBatch)) (h0 : Dn I) (h1 : Dn I) (h2 : Dn I) (h3 : Dn S_TstTest) : St := mkS [(1, (AV.ptr 1 none [])), (3, (AV.val I h0)), (4, (AV.val I h1)), (5, (AV.ptr 5 none [])), (6, (AV.val I h2))] [(1, (Ob.box S_BatBatch (AV.val S_BatBatch x0))), (5, (Ob.box S_TstTest (AV.val S_TstTest h3)))]
def h2_ai (x0 : Dm (.imm S_BatBatch)) (h0 : Dn I) (h1 : Dn I) : St := mkS [(1, (AV.ptr 1 none [])), (3, (AV.val I h0)), (7, (AV.val I h1))] [(1, (Ob.box S_BatBatch (AV.val S_BatBatch x0)))]
def r_ai := rounds (X_ai g_ah) Tryz.f87 R_ai M_ai
variable {g_ah}
theorem ev_ai (k : Nat) (x0 : Dm (.imm S_BatBatch)) : E_ai g_ah k (x0, ()) =
 (r_ai g_ah (x0, ()) k pt0 (h0_ai x0 ((g_ah ((1 : Int), (x0.1, ()))).1) (0 : Int))) := by kernel_rfl
theorem rd0_ai (k : Nat) (x0 : Dm (.imm S_BatBatch)) (h0 : Dn I) (h1 : Dn I) : r_ai g_ah (x0, ()) (k + 1) pt0 (h0_ai x0 h0 h1) =
 (bif (decide (h1 < (List.length x0.2.2.1 : Int))) then (bif (bif (decide ((0 : Int) <= h1)) then (decide (h1 < (List.length x0.2.2.1 : Int))) else false) then (r_ai g_ah (x0, ()) k pt5 (h1_ai x0 ((g_ah ((g_ah ((g_ah ((g_ah (h0, ((rdL (e := S_TstTest) x0.2.2.1 h1).2.1, ()))).1, ((rdL (e := S_TstTest) x0.2.2.1 h1).2.2.1.1, ()))).1, ((rdL (e := S_TstTest) x0.2.2.1 h1).2.2.1.2, ()))).1, ((rdL (e := S_TstTest) x0.2.2.1 h1).2.2.2.1, ()))).1) h1 (0 : Int) (rdL (e := S_TstTest) x0.2.2.1 h1))) else none) else (r_ai g_ah (x0, ()) k pt2 (h2_ai x0 h0 (0 : Int)))) := by kernel_rfl
theorem rd1_ai (k : Nat) (x0 : Dm (.imm S_BatBatch)) (h0 : Dn I) (h1 : Dn I) (h2 : Dn I) (h3 : Dn S_TstTest) : r_ai g_ah (x0, ()) (k + 1) pt5 (h1_ai x0 h0 h1 h2 h3) =
 (bif (decide (h2 < (List.length h3.2.2.2.2 : Int))) then (bif (bif (decide ((0 : Int) <= h2)) then (decide (h2 < (List.length h3.2.2.2.2 : Int))) else false) then (bif (bif (decide ((0 : Int) <= h2)) then (decide (h2 < (List.length h3.2.2.2.2 : Int))) else false) then (r_ai g_ah (x0, ()) k pt5 (h1_ai x0 ((g_ah ((g_ah (h0, ((rdL (e := S_DecDec) h3.2.2.2.2 h2).1, ()))).1, ((rdL (e := S_DecDec) h3.2.2.2.2 h2).2, ()))).1) h1 (w64 (h2 + (1 : Int))) h3)) else none) else none) else (r_ai g_ah (x0, ()) k pt0 (h0_ai x0 h0 (w64 (h1 + (1 : Int)))))) := by kernel_rfl
theorem rd2_ai (k : Nat) (x0 : Dm (.imm S_BatBatch)) (h0 : Dn I) (h1 : Dn I) : r_ai g_ah (x0, ()) (k + 1) pt2 (h2_ai x0 h0 h1) =
 (bif (decide (h1 < (List.length x0.2.2.2.2.2 : Int))) then (bif (bif (decide ((0 : Int) <= h1)) then (decide (h1 < (List.length x0.2.2.2.2.2 : Int))) else false) then (bif (rdL (e := Sh.bool) x0.2.2.2.2.2 h1) then (r_ai g_ah (x0, ()) k pt2 (h2_ai x0 ((g_ah ((g_ah (h0, ((w64 (h1 + (1 : Int))), ()))).1, ((77 : Int), ()))).1) (w64 (h1 + (1 : Int))))) else (r_ai g_ah (x0, ()) k pt2 (h2_ai x0 ((g_ah (h0, ((w64 (h1 + (1 : Int))), ()))).1) (w64 (h1 + (1 : Int)))))) else none) else (some (h0, ()))) := by kernel_rfl
theorem S_ai (h_ah : C_ah (fun _ => true) g_ah) {pre fn} (hev : Hq (E_ai g_ah) pre fn) : C_ai pre fn := sound tysOk mixed (fn := Tryz.f87) rfl rfl rfl (.cons h_ah .nil) _ hev
end
abbrev M_aj : Lm := [.imm S_BatBatch, .imm I, .imm I]
abbrev R_aj : Lr := [(.imm, I)]
abbrev In_aj := Iq M_aj
abbrev Out_aj := Oq R_aj M_aj
abbrev C_aj := Cq 190 M_aj R_aj
section
variable (g_ai : In_ai -> Out_ai) (p_ai : In_ai -> Bool)
abbrev X_aj : Ctx := ctx tys 50 (conOf [(87, ⟨M_ai, R_ai, p_ai, g_ai⟩)]) (keepOf [(pt1, (⟨[(1, .asis), (2, .asis), (3, .asis), (7, .asis)], [(3, .asis)], []⟩ : Keep))]) nF
abbrev E_aj := evFn (X_aj g_ai p_ai) Tryz.f190 R_aj M_aj
def h0_aj (x0 : Dm (.imm S_BatBatch)) (x1 : Dm (.imm I)) (x2 : Dm (.imm I)) (h0 : Dn I) : St := mkS [(1, (AV.val I x1)), (2, (AV.val I x2)), (3, (AV.ptr 3 none [])), (7, (AV.val I h0))] [(3, (Ob.box S_BatBatch (AV.val S_BatBatch x0)))]
def r_aj := rounds (X_aj g_ai p_ai) Tryz.f190 R_aj M_aj
variable {g_ai p_ai}
theorem ev_aj (k : Nat) (x0 : Dm (.imm S_BatBatch)) (x1 : Dm (.imm I)) (x2 : Dm (.imm I)) : E_aj g_ai p_ai k (x0, x1, x2, ()) =
 (r_aj g_ai p_ai (x0, x1, x2, ()) k pt1 (h0_aj x0 x1 x2 (0 : Int))) := by kernel_rfl
theorem rd0_aj (k : Nat) (x0 : Dm (.imm S_BatBatch)) (x1 : Dm (.imm I)) (x2 : Dm (.imm I)) (h0 : Dn I) : r_aj g_ai p_ai (x0, x1, x2, ()) (k + 1) pt1 (h0_aj x0 x1 x2 h0) =
 (bif (decide (h0 < (List.length x0.2.2.2.2.1 : Int))) then (bif (bif (decide ((0 : Int) <= h0)) then (decide (h0 < (List.length x0.2.2.2.2.1 : Int))) else false) then (bif (decide ((rdL (e := S_BatSig) x0.2.2.2.2.1 h0).2.1 = x1)) then (bif (bif (decide ((0 : Int) <= h0)) then (decide (h0 < (List.length x0.2.2.2.2.1 : Int))) else false) then (bif (bif (decide ((rdL (e := S_BatSig) x0.2.2.2.2.1 h0).1 = x2)) then false else true) then (bif (bif (decide ((0 : Int) <= h0)) then (decide (h0 < (List.length x0.2.2.2.2.1 : Int))) else false) then (cl (p_ai (x0, ())) (g_ai (x0, ())) fun y0 => (bif (decide ((rdL (e := S_BatSig) x0.2.2.2.2.1 h0).2.2 = y0.1)) then (bif (bif (decide ((0 : Int) <= h0)) then (decide (h0 < (List.length x0.2.2.2.2.1 : Int))) else false) then (some ((rdL (e := S_BatSig) x0.2.2.2.2.1 h0).1, ())) else none) else (r_aj g_ai p_ai (x0, x1, x2, ()) k pt1 (h0_aj x0 x1 x2 (w64 (h0 + (1 : Int))))))) else none) else (r_aj g_ai p_ai (x0, x1, x2, ()) k pt1 (h0_aj x0 x1 x2 (w64 (h0 + (1 : Int)))))) else none) else (r_aj g_ai p_ai (x0, x1, x2, ()) k pt1 (h0_aj x0 x1 x2 (w64 (h0 + (1 : Int)))))) else none) else (some ((0 : Int), ()))) := by kernel_rfl
theorem S_aj (h_ai : C_ai p_ai g_ai) {pre fn} (hev : Hq (E_aj g_ai p_ai) pre fn) : C_aj pre fn := sound tysOk mixed (fn := Tryz.f190) rfl rfl rfl (.cons h_ai .nil) _ hev
end
abbrev M_ak : Lm := [.imm S_BatBatch]
abbrev R_ak : Lr := [(.imm, .bool)]
abbrev In_ak := Iq M_ak
abbrev Out_ak := Oq R_ak M_ak
abbrev C_ak := Cq 148 M_ak R_ak
section
variable (g_ai : In_ai -> Out_ai) (p_ai : In_ai -> Bool) (g_aj : In_aj -> Out_aj) (p_aj : In_aj -> Bool)
abbrev X_ak : Ctx := ctx tys 44 (conOf [(87, ⟨M_ai, R_ai, p_ai, g_ai⟩), (190, ⟨M_aj, R_aj, p_aj, g_aj⟩)]) (keepOf [(pt3, (⟨[(1, .asis), (3, .asis), (4, .asis)], [(1, .asis)], []⟩ : Keep)), (pt1, (⟨[(1, .asis), (3, .asis)], [(1, .asis)], []⟩ : Keep))]) nF
abbrev E_ak := evFn (X_ak g_ai p_ai g_aj p_aj) Tryz.f148 R_ak M_ak
def h0_ak (x0 : Dm (.imm S_BatBatch)) (h0 : Dn I) : St := mkS [(1, (AV.ptr 1 none [])), (3, (AV.val I h0))] [(1, (Ob.box S_BatBatch (AV.val S_BatBatch x0)))]
def h1_ak (x0 : Dm (.imm S_BatBatch)) (h0 : Dn I) (h1 : Dn I) : St := mkS [(1, (AV.ptr 1 none [])), (3, (AV.val I h0)), (4, (AV.val I h1))] [(1, (Ob.box S_BatBatch (AV.val S_BatBatch x0)))]
def r_ak := rounds (X_ak g_ai p_ai g_aj p_aj) Tryz.f148 R_ak M_ak
variable {g_ai p_ai g_aj p_aj}
theorem ev_ak (k : Nat) (x0 : Dm (.imm S_BatBatch)) : E_ak g_ai p_ai g_aj p_aj k (x0, ()) =
 (r_ak g_ai p_ai g_aj p_aj (x0, ()) k pt1 (h0_ak x0 (1 : Int))) := by kernel_rfl
theorem rd0_ak (k : Nat) (x0 : Dm (.imm S_BatBatch)) (h0 : Dn I) : r_ak g_ai p_ai g_aj p_aj (x0, ()) (k + 1) pt1 (h0_ak x0 h0) =
 (bif (decide (h0 <= (5 : Int))) then (r_ak g_ai p_ai g_aj p_aj (x0, ()) k pt3 (h1_ak x0 h0 (0 : Int))) else (some (false, ()))) := by kernel_rfl
theorem rd1_ak (k : Nat) (x0 : Dm (.imm S_BatBatch)) (h0 : Dn I) (h1 : Dn I) : r_ak g_ai p_ai g_aj p_aj (x0, ()) (k + 1) pt3 (h1_ak x0 h0 h1) =
 (bif (decide (h1 < (List.length x0.2.2.2.2.1 : Int))) then (bif (bif (decide ((0 : Int) <= h1)) then (decide (h1 < (List.length x0.2.2.2.2.1 : Int))) else false) then (bif (decide ((rdL (e := S_BatSig) x0.2.2.2.2.1 h1).1 = h0)) then (bif (decide ((rdL (e := S_BatSig) x0.2.2.2.2.1 h1).2.1 = (2 : Int))) then (cl (p_ai (x0, ())) (g_ai (x0, ())) fun y0 => (bif (decide ((rdL (e := S_BatSig) x0.2.2.2.2.1 h1).2.2 = y0.1)) then (cl (p_aj (x0, ((3 : Int), (h0, ())))) (g_aj (x0, ((3 : Int), (h0, ())))) fun y1 => (bif (decide ((0 : Int) < y1.1)) then (some (true, ())) else (r_ak g_ai p_ai g_aj p_aj (x0, ()) k pt3 (h1_ak x0 h0 (w64 (h1 + (1 : Int))))))) else (r_ak g_ai p_ai g_aj p_aj (x0, ()) k pt3 (h1_ak x0 h0 (w64 (h1 + (1 : Int))))))) else (r_ak g_ai p_ai g_aj p_aj (x0, ()) k pt3 (h1_ak x0 h0 (w64 (h1 + (1 : Int)))))) else (r_ak g_ai p_ai g_aj p_aj (x0, ()) k pt3 (h1_ak x0 h0 (w64 (h1 + (1 : Int)))))) else none) else (r_ak g_ai p_ai g_aj p_aj (x0, ()) k pt1 (h0_ak x0 (w64 (h0 + (1 : Int)))))) := by kernel_rfl
theorem S_ak (h_ai : C_ai p_ai g_ai) (h_aj : C_aj p_aj g_aj) {pre fn} (hev : Hq (E_ak g_ai p_ai g_aj p_aj) pre fn) : C_ak pre fn := sound tysOk mixed (fn := Tryz.f148) rfl rfl rfl (.cons h_ai (.cons h_aj .nil)) _ hev
end
abbrev M_al : Lm := [.pI S_sl20Rd, .imm S_HouHouse, .imm I]
abbrev R_al : Lr := [(.own, S_ReqReq)]
abbrev In_al := Iq M_al
abbrev Out_al := Oq R_al M_al
abbrev C_al := Cq 173 M_al R_al
section
variable (g_ag : In_ag -> Out_ag) (p_ag : In_ag -> Bool) (g_a1 : In_a1 -> Out_a1) (p_a1 : In_a1 -> Bool) (g_ak : In_ak -> Out_ak) (p_ak : In_ak -> Bool)
abbrev X_al : Ctx := ctx tys 91 (conOf [(200, ⟨M_ag, R_ag, p_ag, g_ag⟩), (58, ⟨M_a1, R_a1, p_a1, g_a1⟩), (148, ⟨M_ak, R_ak, p_ak, g_ak⟩)]) (keepOf [(pt2, (⟨[(0, .asis), (2, .asis), (6, .asis), (7, .asis), (11, .asis)], [(6, (.pair .asis (.pair .asis (.pair .asis (.pair .asis (.pair .asis (.pair .asis .own))))))), (7, .asis), (5000, .asis)], []⟩ : Keep)), (pt0, (⟨[(0, .asis), (2, .asis), (6, .asis), (7, .asis), (8, .asis)], [(6, (.pair .asis (.pair .asis (.pair .asis (.pair .asis (.pair .asis (.pair .asis .own))))))), (7, .asis), (5000, .asis)], []⟩ : Keep))]) nF
abbrev E_al := evFn (X_al g_ag p_ag g_a1 p_a1 g_ak p_ak) Tryz.f173 R_al M_al
def h0_al (x0 : Dm (.pI S_sl20Rd)) (x1 : Dm (.imm S_HouHouse)) (x2 : Dm (.imm I)) (h0 : Dn I) (h1 : Dn I) (h2 : Dn I) (h3 : Dn I) (h4 : Dn I) (h5 : Dn I) (h6 : Dn S_DecDec) (h7 : (List (Dn S_SpcTest))) (h8 : Dn S_BatBatch) (h9 : Dn S_sl20Rd) : St := mkS [(0, (AV.ptr 5000 none [])), (2, (AV.val I x2)), (6, (AV.ptr 6 none [])), (7, (AV.ptr 7 none [])), (8, (AV.val I h0))] [(6, (Ob.box S_ReqReq (AV.pair (AV.val I h1) (AV.pair (AV.val I h2) (AV.pair (AV.val I h3) (AV.pair (AV.val I h4) (AV.pair (AV.val I h5) (AV.pair (AV.val S_DecDec h6) (AV.sref 2506 none []))))))))), (2506, (Ob.arr 53 S_SpcTest h7)), (7, (Ob.box S_BatBatch (AV.val S_BatBatch h8))), (5000, (Ob.box S_sl20Rd (AV.val S_sl20Rd h9)))]
def h1_al (x0 : Dm (.pI S_sl20Rd)) (x1 : Dm (.imm S_HouHouse)) (x2 : Dm (.imm I)) (h0 : Dn I) (h1 : Dn I) (h2 : Dn I) (h3 : Dn I) (h4 : Dn I) (h5 : Dn I) (h6 : Dn S_DecDec) (h7 : (List (Dn S_SpcTest))) (h8 : Dn S_BatBatch) (h9 : Dn S_sl20Rd) : St := mkS [(0, (AV.ptr 5000 none [])), (2, (AV.val I x2)), (6, (AV.ptr 6 none [])), (7, (AV.ptr 7 none [])), (11, (AV.val I h0))] [(6, (Ob.box S_ReqReq (AV.pair (AV.val I h1) (AV.pair (AV.val I h2) (AV.pair (AV.val I h3) (AV.pair (AV.val I h4) (AV.pair (AV.val I h5) (AV.pair (AV.val S_DecDec h6) (AV.sref 2506 none []))))))))), (2506, (Ob.arr 53 S_SpcTest h7)), (7, (Ob.box S_BatBatch (AV.val S_BatBatch h8))), (5000, (Ob.box S_sl20Rd (AV.val S_sl20Rd h9)))]
def r_al := rounds (X_al g_ag p_ag g_a1 p_a1 g_ak p_ak) Tryz.f173 R_al M_al
variable {g_ag p_ag g_a1 p_a1 g_ak p_ak}
theorem ev_al (k : Nat) (x0 : Dm (.pI S_sl20Rd)) (x1 : Dm (.imm S_HouHouse)) (x2 : Dm (.imm I)) : E_al g_ag p_ag g_a1 p_a1 g_ak p_ak k (x0, x1, x2, ()) =
 (bif (bif (decide ((0 : Int) <= x2)) then (decide (x2 < (List.length x1.2.2 : Int))) else false) then (r_al g_ag p_ag g_a1 p_a1 g_ak p_ak (x0, x1, x2, ()) k pt0 (h0_al x0 x1 x2 (0 : Int) (0 : Int) (0 : Int) (0 : Int) (0 : Int) (0 : Int) ((0 : Int), (0 : Int)) [] (rdL (e := S_BatBatch) x1.2.2 x2) x0)) else none) := by kernel_rfl
theorem rd0_al (k : Nat) (x0 : Dm (.pI S_sl20Rd)) (x1 : Dm (.imm S_HouHouse)) (x2 : Dm (.imm I)) (h0 : Dn I) (h1 : Dn I) (h2 : Dn I) (h3 : Dn I) (h4 : Dn I) (h5 : Dn I) (h6 : Dn S_DecDec) (h7 : (List (Dn S_SpcTest))) (h8 : Dn S_BatBatch) (h9 : Dn S_sl20Rd) : r_al g_ag p_ag g_a1 p_a1 g_ak p_ak (x0, x1, x2, ()) (k + 1) pt0 (h0_al x0 x1 x2 h0 h1 h2 h3 h4 h5 h6 h7 h8 h9) =
 (lt (rdL (e := S_TstTest) h8.2.2.1 h0) fun s1 => (lt (w64 (h0 + (1 : Int))) fun s0 => (bif (decide (h0 < (List.length h8.2.2.1 : Int))) then (bif (bif (decide ((0 : Int) <= h0)) then (decide (h0 < (List.length h8.2.2.1 : Int))) else false) then (bif (decide (s1.2.1 = (0 : Int))) then (cl (p_ag (h9, (s1.1, ()))) (g_ag (h9, (s1.1, ()))) fun y0 => (bif (decide ((0 : Int) < (4 : Int))) then (some (((0 : Int), ((4 : Int), (x2, (s1.1.1, ((0 : Int), (y0.1, [])))))), (y0.2.1, ()))) else (r_al g_ag p_ag g_a1 p_a1 g_ak p_ak (x0, x1, x2, ()) k pt0 (h0_al x0 x1 x2 s0 h1 h2 h3 h4 h5 h6 h7 h8 (y0.2.1))))) else (bif (decide (s1.2.1 = (1 : Int))) then (cl (p_a1 (h9, ((5 : Int), ()))) (g_a1 (h9, ((5 : Int), ()))) fun y1 => (bif (bif (decide ((0 : Int) <= y1.1)) then (decide (y1.1 < (List.length [(1 : Int), (2 : Int), (1 : Int), (2 : Int), (3 : Int)] : Int))) else false) then (bif (decide ((0 : Int) < (5 : Int))) then (some (((0 : Int), ((5 : Int), (x2, (s1.1.1, ((rdL (e := I) [(1 : Int), (2 : Int), (1 : Int), (2 : Int), (3 : Int)] y1.1), (((0 : Int), (0 : Int)), [])))))), (y1.2.1, ()))) else (r_al g_ag p_ag g_a1 p_a1 g_ak p_ak (x0, x1, x2, ()) k pt0 (h0_al x0 x1 x2 s0 h1 h2 h3 h4 h5 h6 h7 h8 (y1.2.1)))) else none)) else (bif (decide (s1.2.1 = (2 : Int))) then (cl (p_ag (h9, (s1.1, ()))) (g_ag (h9, (s1.1, ()))) fun y2 => (bif (decide ((0 : Int) < (6 : Int))) then (some (((0 : Int), ((6 : Int), (x2, (s1.1.1, ((0 : Int), (y2.1, [])))))), (y2.2.1, ()))) else (r_al g_ag p_ag g_a1 p_a1 g_ak p_ak (x0, x1, x2, ()) k pt0 (h0_al x0 x1 x2 s0 h1 h2 h3 h4 h5 h6 h7 h8 (y2.2.1))))) else (bif (decide ((0 : Int) < (0 : Int))) then (some (((0 : Int), ((0 : Int), (x2, (s1.1.1, ((0 : Int), (((0 : Int), (0 : Int)), [])))))), (h9, ()))) else (r_al g_ag p_ag g_a1 p_a1 g_ak p_ak (x0, x1, x2, ()) k pt0 (h0_al x0 x1 x2 s0 h1 h2 h3 h4 h5 h6 h7 h8 h9)))))) else none) else (r_al g_ag p_ag g_a1 p_a1 g_ak p_ak (x0, x1, x2, ()) k pt2 (h1_al x0 x1 x2 (0 : Int) h1 h2 h3 h4 h5 h6 h7 h8 h9))))) := by kernel_rfl
theorem rd1_al (k : Nat) (x0 : Dm (.pI S_sl20Rd)) (x1 : Dm (.imm S_HouHouse)) (x2 : Dm (.imm I)) (h0 : Dn I) (h1 : Dn I) (h2 : Dn I) (h3 : Dn I) (h4 : Dn I) (h5 : Dn I) (h6 : Dn S_DecDec) (h7 : (List (Dn S_SpcTest))) (h8 : Dn S_BatBatch) (h9 : Dn S_sl20Rd) : r_al g_ag p_ag g_a1 p_a1 g_ak p_ak (x0, x1, x2, ()) (k + 1) pt2 (h1_al x0 x1 x2 h0 h1 h2 h3 h4 h5 h6 h7 h8 h9) =
 (bif (decide (h0 < (List.length h8.2.2.2.2.2 : Int))) then (bif (bif (decide ((0 : Int) <= h0)) then (decide (h0 < (List.length h8.2.2.2.2.2 : Int))) else false) then (bif (rdL (e := Sh.bool) h8.2.2.2.2.2 h0) then (some (((0 : Int), ((8 : Int), (x2, ((0 : Int), (h0, (((0 : Int), (0 : Int)), [])))))), (h9, ()))) else (r_al g_ag p_ag g_a1 p_a1 g_ak p_ak (x0, x1, x2, ()) k pt2 (h1_al x0 x1 x2 (w64 (h0 + (1 : Int))) h1 h2 h3 h4 h5 h6 h7 h8 h9))) else none) else (bif (decide (h8.2.2.2.1 = (2 : Int))) then (some (((0 : Int), ((12 : Int), (x2, ((0 : Int), ((0 : Int), (((0 : Int), (0 : Int)), [])))))), (h9, ()))) else (cl (p_ak (h8, ())) (g_ak (h8, ())) fun y0 => (bif y0.1 then (some (((0 : Int), ((10 : Int), (x2, ((0 : Int), ((0 : Int), (((0 : Int), (0 : Int)), [])))))), (h9, ()))) else (some (((0 : Int), ((9 : Int), (x2, ((0 : Int), ((0 : Int), (((0 : Int), (0 : Int)), [])))))), (h9, ()))))))) := by kernel_rfl
theorem S_al (h_ag : C_ag p_ag g_ag) (h_a1 : C_a1 p_a1 g_a1) (h_ak : C_ak p_ak g_ak) {pre fn} (hev : Hq (E_al g_ag p_ag g_a1 p_a1 g_ak p_ak) pre fn) : C_al pre fn := sound tysOk mixed (fn := Tryz.f173) rfl rfl rfl (.cons h_ag (.cons h_a1 (.cons h_ak .nil))) _ hev
end
abbrev M_am : Lm := [.imm I, .imm I]
abbrev R_am : Lr := [(.imm, .bool)]
abbrev In_am := Iq M_am
abbrev Out_am := Oq R_am M_am
abbrev C_am := Cq 132 M_am R_am
abbrev X_am : Ctx := ctx tys 45 (conOf []) (keepOf []) nF
abbrev E_am := evFn X_am Tryz.f132 R_am M_am
theorem ev_am (k : Nat) (x0 : Dm (.imm I)) (x1 : Dm (.imm I)) : E_am k (x0, x1, ()) =
 (bif (decide (x1 = (1 : Int))) then (some ((decide (x0 = (4 : Int))), ())) else (bif (decide (x1 = (2 : Int))) then (some ((decide (x0 = (4 : Int))), ())) else (bif (decide (x1 = (3 : Int))) then (bif (decide (x0 = (1 : Int))) then (some (true, ())) else (some ((decide (x0 = (2 : Int))), ()))) else (bif (decide (x1 = (4 : Int))) then (bif (decide (x0 = (1 : Int))) then (some (true, ())) else (some ((decide (x0 = (2 : Int))), ()))) else (bif (decide (x1 = (6 : Int))) then (bif (decide (x0 = (1 : Int))) then (some (true, ())) else (some ((decide (x0 = (2 : Int))), ()))) else (bif (decide (x1 = (7 : Int))) then (bif (decide (x0 = (1 : Int))) then (some (true, ())) else (some ((decide (x0 = (2 : Int))), ()))) else (bif (decide (x1 = (5 : Int))) then (bif (decide (x0 = (2 : Int))) then (some (true, ())) else (some ((decide (x0 = (3 : Int))), ()))) else (bif (decide (x1 = (8 : Int))) then (bif (decide (x0 = (2 : Int))) then (some (true, ())) else (some ((decide (x0 = (3 : Int))), ()))) else (bif (decide (x1 = (9 : Int))) then (bif (decide (x0 = (2 : Int))) then (some (true, ())) else (some ((decide (x0 = (3 : Int))), ()))) else (bif (decide (x1 = (10 : Int))) then (some ((decide (x0 = (3 : Int))), ())) else (bif (decide (x1 = (11 : Int))) then (some ((decide (x0 = (3 : Int))), ())) else (bif (decide (x1 = (12 : Int))) then (some ((decide (x0 = (3 : Int))), ())) else (some (false, ())))))))))))))) := by kernel_rfl
theorem S_am  {pre fn} (hev : Hq E_am pre fn) : C_am pre fn := sound tysOk mixed (fn := Tryz.f132) rfl rfl rfl ConsOk.nil _ hev
abbrev M_an : Lm := [.pI S_sl20Rd, .imm L_int, .imm I]
abbrev R_an : Lr := [(.imm, I)]
abbrev In_an := Iq M_an
abbrev Out_an := Oq R_an M_an
abbrev C_an := Cq 174 M_an R_an
section
variable (g_a1 : In_a1 -> Out_a1) (p_a1 : In_a1 -> Bool) (g_am : In_am -> Out_am)
abbrev X_an : Ctx := ctx tys 35 (conOf [(58, ⟨M_a1, R_a1, p_a1, g_a1⟩), (132, ⟨M_am, R_am, fun _ => true, g_am⟩)]) (keepOf [(pt0, (⟨[(0, .asis), (1, .asis), (2, .asis), (7, .asis), (8, .asis)], [(5000, .asis)], []⟩ : Keep))]) nF
abbrev E_an := evFn (X_an g_a1 p_a1 g_am) Tryz.f174 R_an M_an
def h0_an (x0 : Dm (.pI S_sl20Rd)) (x1 : Dm (.imm L_int)) (x2 : Dm (.imm I)) (h0 : Dn I) (h1 : Dn I) (h2 : Dn S_sl20Rd) : St := mkS [(0, (AV.ptr 5000 none [])), (1, (AV.val L_int x1)), (2, (AV.val I x2)), (7, (AV.val I h0)), (8, (AV.val I h1))] [(5000, (Ob.box S_sl20Rd (AV.val S_sl20Rd h2)))]
def r_an := rounds (X_an g_a1 p_a1 g_am) Tryz.f174 R_an M_an
variable {g_a1 p_a1 g_am}
theorem ev_an (k : Nat) (x0 : Dm (.pI S_sl20Rd)) (x1 : Dm (.imm L_int)) (x2 : Dm (.imm I)) : E_an g_a1 p_a1 g_am k (x0, x1, x2, ()) =
 (cl (p_a1 (x0, ((w64 ((List.length x1 : Int) + (1 : Int))), ()))) (g_a1 (x0, ((w64 ((List.length x1 : Int) + (1 : Int))), ()))) fun y0 => (r_an g_a1 p_a1 g_am (x0, x1, x2, ()) k pt0 (h0_an x0 x1 x2 (y0.1) (0 : Int) (y0.2.1)))) := by kernel_rfl
theorem rd0_an (k : Nat) (x0 : Dm (.pI S_sl20Rd)) (x1 : Dm (.imm L_int)) (x2 : Dm (.imm I)) (h0 : Dn I) (h1 : Dn I) (h2 : Dn S_sl20Rd) : r_an g_a1 p_a1 g_am (x0, x1, x2, ()) (k + 1) pt0 (h0_an x0 x1 x2 h0 h1 h2) =
 (bif (decide (h1 < (List.length x1 : Int))) then (bif (bif (decide ((List.length x1 : Int) = (0 : Int))) then false else true) then (bif (bif (decide ((0 : Int) <= (Int.tmod (w64 (h0 + h1)) (List.length x1 : Int)))) then (decide ((Int.tmod (w64 (h0 + h1)) (List.length x1 : Int)) < (List.length x1 : Int))) else false) then (bif (g_am ((rdL (e := I) x1 (Int.tmod (w64 (h0 + h1)) (List.length x1 : Int))), (x2, ()))).1 then (some ((w64 ((Int.tmod (w64 (h0 + h1)) (List.length x1 : Int)) + (1 : Int))), (h2, ()))) else (r_an g_a1 p_a1 g_am (x0, x1, x2, ()) k pt0 (h0_an x0 x1 x2 h0 (w64 (h1 + (1 : Int))) h2))) else none) else none) else (some ((1 : Int), (h2, ())))) := by kernel_rfl
theorem S_an (h_a1 : C_a1 p_a1 g_a1) (h_am : C_am (fun _ => true) g_am) {pre fn} (hev : Hq (E_an g_a1 p_a1 g_am) pre fn) : C_an pre fn := sound tysOk mixed (fn := Tryz.f174) rfl rfl rfl (.cons h_a1 (.cons h_am .nil)) _ hev
end
abbrev M_ao : Lm := [.pI S_sl20Rd, .imm S_HouHouse]
abbrev R_ao : Lr := [(.imm, S_ReqReq)]
abbrev In_ao := Iq M_ao
abbrev Out_ao := Oq R_ao M_ao
abbrev C_ao := Cq 119 M_ao R_ao
section
variable (g_a1 : In_a1 -> Out_a1) (p_a1 : In_a1 -> Bool) (g_a8 : In_a8 -> Out_a8) (p_a8 : In_a8 -> Bool) (g_a9 : In_a9 -> Out_a9) (p_a9 : In_a9 -> Bool) (g_aa : In_aa -> Out_aa) (g_al : In_al -> Out_al) (p_al : In_al -> Bool) (g_an : In_an -> Out_an) (p_an : In_an -> Bool)
abbrev X_ao : Ctx := ctx tys 96 (conOf [(58, ⟨M_a1, R_a1, p_a1, g_a1⟩), (121, ⟨M_a8, R_a8, p_a8, g_a8⟩), (172, ⟨M_a9, R_a9, p_a9, g_a9⟩), (68, ⟨M_aa, R_aa, fun _ => true, g_aa⟩), (173, ⟨M_al, R_al, p_al, g_al⟩), (174, ⟨M_an, R_an, p_an, g_an⟩)]) (keepOf []) nF
abbrev E_ao := evFn (X_ao g_a1 p_a1 g_a8 p_a8 g_a9 p_a9 g_aa g_al p_al g_an p_an) Tryz.f119 R_ao M_ao
variable {g_a1 p_a1 g_a8 p_a8 g_a9 p_a9 g_aa g_al p_al g_an p_an}
theorem ev_ao (k : Nat) (x0 : Dm (.pI S_sl20Rd)) (x1 : Dm (.imm S_HouHouse)) : E_ao g_a1 p_a1 g_a8 p_a8 g_a9 p_a9 g_aa g_al p_al g_an p_an k (x0, x1, ()) =
 (bif (decide ((List.length x1.2.1 : Int) = (0 : Int))) then (cl (p_a8 (x0, ((9999 : Int), ()))) (g_a8 (x0, ((9999 : Int), ()))) fun y0 => (cl (p_an (y0.2.1, (x1.1, ((1 : Int), ())))) (g_an (y0.2.1, (x1.1, ((1 : Int), ())))) fun y1 => (cl (p_a1 (y1.2.1, ((12 : Int), ()))) (g_a1 (y1.2.1, ((12 : Int), ()))) fun y2 => (bif (decide (y2.1 = (0 : Int))) then (cl (p_a1 (y2.2.1, ((5 : Int), ()))) (g_a1 (y2.2.1, ((5 : Int), ()))) fun y3 => (some (((w64 ((1 : Int) + y3.1)), ((1 : Int), ((0 : Int), ((0 : Int), ((0 : Int), (((0 : Int), (0 : Int)), y0.1)))))), (y3.2.1, ())))) else (some ((y1.1, ((1 : Int), ((0 : Int), ((0 : Int), ((0 : Int), (((0 : Int), (0 : Int)), y0.1)))))), (y2.2.1, ()))))))) else (cl (p_a1 (x0, ((12 : Int), ()))) (g_a1 (x0, ((12 : Int), ()))) fun y4 => (bif (decide (y4.1 = (0 : Int))) then (cl (p_a8 (y4.2.1, ((9999 : Int), ()))) (g_a8 (y4.2.1, ((9999 : Int), ()))) fun y5 => (cl (p_an (y5.2.1, (x1.1, ((1 : Int), ())))) (g_an (y5.2.1, (x1.1, ((1 : Int), ())))) fun y6 => (cl (p_a1 (y6.2.1, ((12 : Int), ()))) (g_a1 (y6.2.1, ((12 : Int), ()))) fun y7 => (bif (decide (y7.1 = (0 : Int))) then (cl (p_a1 (y7.2.1, ((5 : Int), ()))) (g_a1 (y7.2.1, ((5 : Int), ()))) fun y8 => (some (((w64 ((1 : Int) + y8.1)), ((1 : Int), ((0 : Int), ((0 : Int), ((0 : Int), (((0 : Int), (0 : Int)), y5.1)))))), (y8.2.1, ())))) else (some ((y6.1, ((1 : Int), ((0 : Int), ((0 : Int), ((0 : Int), (((0 : Int), (0 : Int)), y5.1)))))), (y7.2.1, ()))))))) else (cl (p_a9 (x1.2.1, ())) (g_a9 (x1.2.1, ())) fun y9 => (bif (decide (y9.1 < (0 : Int))) then (cl (p_a1 (y4.2.1, ((w64 ((List.length x1.2.1 : Int) + (1 : Int))), ()))) (g_a1 (y4.2.1, ((w64 ((List.length x1.2.1 : Int) + (1 : Int))), ()))) fun y10 => (cl (p_an (y10.2.1, (x1.1, ((2 : Int), ())))) (g_an (y10.2.1, (x1.1, ((2 : Int), ())))) fun y11 => (cl (p_a1 (y11.2.1, ((12 : Int), ()))) (g_a1 (y11.2.1, ((12 : Int), ()))) fun y12 => (bif (decide (y12.1 = (0 : Int))) then (cl (p_a1 (y12.2.1, ((5 : Int), ()))) (g_a1 (y12.2.1, ((5 : Int), ()))) fun y13 => (some (((w64 ((1 : Int) + y13.1)), ((2 : Int), ((0 : Int), ((0 : Int), (y10.1, (((0 : Int), (0 : Int)), [])))))), (y13.2.1, ())))) else (some ((y11.1, ((2 : Int), ((0 : Int), ((0 : Int), (y10.1, (((0 : Int), (0 : Int)), [])))))), (y12.2.1, ()))))))) else (cl (p_a1 (y4.2.1, ((14 : Int), ()))) (g_a1 (y4.2.1, ((14 : Int), ()))) fun y14 => (bif (decide (y14.1 = (0 : Int))) then (cl (p_a1 (y14.2.1, ((w64 ((List.length x1.2.1 : Int) + (1 : Int))), ()))) (g_a1 (y14.2.1, ((w64 ((List.length x1.2.1 : Int) + (1 : Int))), ()))) fun y15 => (cl (p_an (y15.2.1, (x1.1, ((2 : Int), ())))) (g_an (y15.2.1, (x1.1, ((2 : Int), ())))) fun y16 => (cl (p_a1 (y16.2.1, ((12 : Int), ()))) (g_a1 (y16.2.1, ((12 : Int), ()))) fun y17 => (bif (decide (y17.1 = (0 : Int))) then (cl (p_a1 (y17.2.1, ((5 : Int), ()))) (g_a1 (y17.2.1, ((5 : Int), ()))) fun y18 => (some (((w64 ((1 : Int) + y18.1)), ((2 : Int), ((0 : Int), ((0 : Int), (y15.1, (((0 : Int), (0 : Int)), [])))))), (y18.2.1, ())))) else (some ((y16.1, ((2 : Int), ((0 : Int), ((0 : Int), (y15.1, (((0 : Int), (0 : Int)), [])))))), (y17.2.1, ()))))))) else (bif (decide ((List.length x1.2.2 : Int) = (0 : Int))) then (cl (p_a1 (y14.2.1, ((4 : Int), ()))) (g_a1 (y14.2.1, ((4 : Int), ()))) fun y19 => (bif (bif (decide ((0 : Int) <= y19.1)) then (decide (y19.1 < (List.length [(1 : Int), (9 : Int), (100 : Int), (0 : Int)] : Int))) else false) then (cl (p_an (y19.2.1, (x1.1, ((3 : Int), ())))) (g_an (y19.2.1, (x1.1, ((3 : Int), ())))) fun y20 => (cl (p_a1 (y20.2.1, ((12 : Int), ()))) (g_a1 (y20.2.1, ((12 : Int), ()))) fun y21 => (bif (decide (y21.1 = (0 : Int))) then (cl (p_a1 (y21.2.1, ((5 : Int), ()))) (g_a1 (y21.2.1, ((5 : Int), ()))) fun y22 => (some (((w64 ((1 : Int) + y22.1)), ((3 : Int), ((0 : Int), ((0 : Int), ((rdL (e := I) [(1 : Int), (9 : Int), (100 : Int), (0 : Int)] y19.1), (((0 : Int), (0 : Int)), [])))))), (y22.2.1, ())))) else (some ((y20.1, ((3 : Int), ((0 : Int), ((0 : Int), ((rdL (e := I) [(1 : Int), (9 : Int), (100 : Int), (0 : Int)] y19.1), (((0 : Int), (0 : Int)), [])))))), (y21.2.1, ())))))) else none)) else (cl (p_a1 (y14.2.1, ((12 : Int), ()))) (g_a1 (y14.2.1, ((12 : Int), ()))) fun y23 => (bif (decide (y23.1 = (0 : Int))) then (cl (p_a1 (y23.2.1, ((4 : Int), ()))) (g_a1 (y23.2.1, ((4 : Int), ()))) fun y24 => (bif (bif (decide ((0 : Int) <= y24.1)) then (decide (y24.1 < (List.length [(1 : Int), (9 : Int), (100 : Int), (0 : Int)] : Int))) else false) then (cl (p_an (y24.2.1, (x1.1, ((3 : Int), ())))) (g_an (y24.2.1, (x1.1, ((3 : Int), ())))) fun y25 => (cl (p_a1 (y25.2.1, ((12 : Int), ()))) (g_a1 (y25.2.1, ((12 : Int), ()))) fun y26 => (bif (decide (y26.1 = (0 : Int))) then (cl (p_a1 (y26.2.1, ((5 : Int), ()))) (g_a1 (y26.2.1, ((5 : Int), ()))) fun y27 => (some (((w64 ((1 : Int) + y27.1)), ((3 : Int), ((0 : Int), ((0 : Int), ((rdL (e := I) [(1 : Int), (9 : Int), (100 : Int), (0 : Int)] y24.1), (((0 : Int), (0 : Int)), [])))))), (y27.2.1, ())))) else (some ((y25.1, ((3 : Int), ((0 : Int), ((0 : Int), ((rdL (e := I) [(1 : Int), (9 : Int), (100 : Int), (0 : Int)] y24.1), (((0 : Int), (0 : Int)), [])))))), (y26.2.1, ())))))) else none)) else (cl (p_a1 (y23.2.1, ((9 : Int), ()))) (g_a1 (y23.2.1, ((9 : Int), ()))) fun y28 => (bif (decide (y28.1 = (0 : Int))) then (cl (p_a1 (y28.2.1, ((9 : Int), ()))) (g_a1 (y28.2.1, ((9 : Int), ()))) fun y29 => (cl (p_a1 (y29.2.1, ((w64 ((List.length x1.2.2 : Int) + (1 : Int))), ()))) (g_a1 (y29.2.1, ((w64 ((List.length x1.2.2 : Int) + (1 : Int))), ()))) fun y30 => (cl (p_a1 (y30.2.1, ((4 : Int), ()))) (g_a1 (y30.2.1, ((4 : Int), ()))) fun y31 => (cl (p_a1 (y31.2.1, ((3 : Int), ()))) (g_a1 (y31.2.1, ((3 : Int), ()))) fun y32 => (cl (p_an (y32.2.1, (x1.1, ((g_aa (((0 : Int), ((w64 ((4 : Int) + y29.1)), (y30.1, ((w64 ((1 : Int) + y31.1)), (y32.1, (((12 : Int), (1 : Int)), [])))))), ())).1.2.1, ())))) (g_an (y32.2.1, (x1.1, ((g_aa (((0 : Int), ((w64 ((4 : Int) + y29.1)), (y30.1, ((w64 ((1 : Int) + y31.1)), (y32.1, (((12 : Int), (1 : Int)), [])))))), ())).1.2.1, ())))) fun y33 => (cl (p_a1 (y33.2.1, ((12 : Int), ()))) (g_a1 (y33.2.1, ((12 : Int), ()))) fun y34 => (bif (decide (y34.1 = (0 : Int))) then (cl (p_a1 (y34.2.1, ((5 : Int), ()))) (g_a1 (y34.2.1, ((5 : Int), ()))) fun y35 => (some (((w64 ((1 : Int) + y35.1)), (g_aa (((0 : Int), ((w64 ((4 : Int) + y29.1)), (y30.1, ((w64 ((1 : Int) + y31.1)), (y32.1, (((12 : Int), (1 : Int)), [])))))), ())).1.2), (y35.2.1, ())))) else (some ((y33.1, (g_aa (((0 : Int), ((w64 ((4 : Int) + y29.1)), (y30.1, ((w64 ((1 : Int) + y31.1)), (y32.1, (((12 : Int), (1 : Int)), [])))))), ())).1.2), (y34.2.1, ())))))))))) else (cl (p_a1 (y28.2.1, ((List.length x1.2.2 : Int), ()))) (g_a1 (y28.2.1, ((List.length x1.2.2 : Int), ()))) fun y36 => (cl (p_al (y36.2.1, (x1, (y36.1, ())))) (g_al (y36.2.1, (x1, (y36.1, ())))) fun y37 => (cl (p_an (y37.2.1, (x1.1, (y37.1.2.1, ())))) (g_an (y37.2.1, (x1.1, (y37.1.2.1, ())))) fun y38 => (cl (p_a1 (y38.2.1, ((12 : Int), ()))) (g_a1 (y38.2.1, ((12 : Int), ()))) fun y39 => (bif (decide (y39.1 = (0 : Int))) then (cl (p_a1 (y39.2.1, ((5 : Int), ()))) (g_a1 (y39.2.1, ((5 : Int), ()))) fun y40 => (some (((w64 ((1 : Int) + y40.1)), y37.1.2), (y40.2.1, ())))) else (some ((y38.1, y37.1.2), (y39.2.1, ())))))))))))))))))))) := by kernel_rfl
theorem S_ao (h_a1 : C_a1 p_a1 g_a1) (h_a8 : C_a8 p_a8 g_a8) (h_a9 : C_a9 p_a9 g_a9) (h_aa : C_aa (fun _ => true) g_aa) (h_al : C_al p_al g_al) (h_an : C_an p_an g_an) {pre fn} (hev : Hq (E_ao g_a1 p_a1 g_a8 p_a8 g_a9 p_a9 g_aa g_al p_al g_an p_an) pre fn) : C_ao pre fn := sound tysOk mixed (fn := Tryz.f119) rfl rfl rfl (.cons h_a1 (.cons h_a8 (.cons h_a9 (.cons h_aa (.cons h_al (.cons h_an .nil)))))) _ hev
end
abbrev M_ap : Lm := [.imm L_SpcSpec]
abbrev R_ap : Lr := [(.own, L_SpcSpec)]
abbrev In_ap := Iq M_ap
abbrev Out_ap := Oq R_ap M_ap
abbrev C_ap := Cq 136 M_ap R_ap
abbrev X_ap : Ctx := ctx tys 29 (conOf []) (keepOf [(pt0, (⟨[(0, .asis), (3, .own), (4, .asis)], [], []⟩ : Keep))]) nF
abbrev E_ap := evFn X_ap Tryz.f136 R_ap M_ap
def h0_ap (x0 : Dm (.imm L_SpcSpec)) (h0 : Dn I) (h1 : (List (Dn S_SpcSpec))) : St := mkS [(0, (AV.val L_SpcSpec x0)), (3, (AV.sref 2503 none [])), (4, (AV.val I h0))] [(2503, (Ob.arr 83 S_SpcSpec h1))]
def r_ap := rounds X_ap Tryz.f136 R_ap M_ap
theorem ev_ap (k : Nat) (x0 : Dm (.imm L_SpcSpec)) : E_ap k (x0, ()) =
 (r_ap  (x0, ()) k pt0 (h0_ap x0 (0 : Int) [])) := by kernel_rfl
theorem rd0_ap (k : Nat) (x0 : Dm (.imm L_SpcSpec)) (h0 : Dn I) (h1 : (List (Dn S_SpcSpec))) : r_ap  (x0, ()) (k + 1) pt0 (h0_ap x0 h0 h1) =
 (bif (decide (h0 < (List.length x0 : Int))) then (bif (bif (decide ((0 : Int) <= h0)) then (decide (h0 < (List.length x0 : Int))) else false) then (bif (fitL [] (rdL (e := S_SpcSpec) x0 h0).1) then (bif (bif (decide ((0 : Int) <= h0)) then (decide (h0 < (List.length x0 : Int))) else false) then (bif (fitL h1 [((List.append [] (rdL (e := S_SpcSpec) x0 h0).1), (rdL (e := S_SpcSpec) x0 h0).2)]) then (r_ap  (x0, ()) k pt0 (h0_ap x0 (w64 (h0 + (1 : Int))) (List.append h1 [((List.append [] (rdL (e := S_SpcSpec) x0 h0).1), (rdL (e := S_SpcSpec) x0 h0).2)]))) else none) else none) else none) else none) else (some (h1, ()))) := by kernel_rfl
theorem S_ap  {pre fn} (hev : Hq E_ap pre fn) : C_ap pre fn := sound tysOk mixed (fn := Tryz.f136) rfl rfl rfl ConsOk.nil _ hev
abbrev M_aq : Lm := [.imm S_TstTest]
abbrev R_aq : Lr := [(.own, S_TstTest)]
abbrev In_aq := Iq M_aq
abbrev Out_aq := Oq R_aq M_aq
abbrev C_aq := Cq 152 M_aq R_aq
abbrev X_aq : Ctx := ctx tys 9 (conOf []) (keepOf []) nF
abbrev E_aq := evFn X_aq Tryz.f152 R_aq M_aq
theorem ev_aq (k : Nat) (x0 : Dm (.imm S_TstTest)) : E_aq k (x0, ()) =
 (bif (fitL [] x0.2.2.2.2) then (some ((x0.1, (x0.2.1, (x0.2.2.1, (x0.2.2.2.1, (List.append [] x0.2.2.2.2))))), ())) else none) := by kernel_rfl
theorem S_aq  {pre fn} (hev : Hq E_aq pre fn) : C_aq pre fn := sound tysOk mixed (fn := Tryz.f152) rfl rfl rfl ConsOk.nil _ hev
abbrev M_ar : Lm := [.imm S_BatBatch]
abbrev R_ar : Lr := [(.own, S_BatBatch)]
abbrev In_ar := Iq M_ar
abbrev Out_ar := Oq R_ar M_ar
abbrev C_ar := Cq 86 M_ar R_ar
section
variable (g_aq : In_aq -> Out_aq) (p_aq : In_aq -> Bool)
abbrev X_ar : Ctx := ctx tys 39 (conOf [(152, ⟨M_aq, R_aq, p_aq, g_aq⟩)]) (keepOf [(pt0, (⟨[(1, .asis), (2, .asis), (3, .asis), (4, .asis)], [(1, .asis), (2, (.pair .asis (.pair .asis (.pair .own (.pair .asis (.pair .own .own)))))), (3, (.pair .asis (.pair .asis (.pair .own (.pair .asis (.pair .own .own))))))], []⟩ : Keep))]) nF
abbrev E_ar := evFn (X_ar g_aq p_aq) Tryz.f86 R_ar M_ar
def h0_ar (x0 : Dm (.imm S_BatBatch)) (h0 : Dn I) (h1 : Dn I) (h2 : Dn I) (h3 : Dn I) (h4 : (List (Dn S_TstTest))) (h5 : (List (Dn S_BatSig))) (h6 : (List (Dn Sh.bool))) (h7 : (List (Dn S_TstTest))) (h8 : (List (Dn S_BatSig))) (h9 : (List (Dn Sh.bool))) : St := mkS [(1, (AV.ptr 1 none [])), (2, (AV.ptr 2 none [])), (3, (AV.ptr 3 none [])), (4, (AV.val I h0))] [(1, (Ob.box S_BatBatch (AV.val S_BatBatch x0))), (2, (Ob.box S_BatBatch (AV.pair (AV.val I h1) (AV.pair (AV.val I h2) (AV.pair (AV.sref 2502 none []) (AV.pair (AV.val I h3) (AV.pair (AV.sref 12502 none []) (AV.sref 22502 none [])))))))), (2502, (Ob.arr 56 S_TstTest h4)), (12502, (Ob.arr 58 S_BatSig h5)), (22502, (Ob.arr 4 Sh.bool h6)), (3, (Ob.box S_BatBatch (AV.pair (AV.val I x0.1) (AV.pair (AV.val I x0.2.1) (AV.pair (AV.sref 2503 none []) (AV.pair (AV.val I x0.2.2.2.1) (AV.pair (AV.sref 12503 none []) (AV.sref 22503 none [])))))))), (2503, (Ob.arr 56 S_TstTest h7)), (12503, (Ob.arr 58 S_BatSig h8)), (22503, (Ob.arr 4 Sh.bool h9))]
def r_ar := rounds (X_ar g_aq p_aq) Tryz.f86 R_ar M_ar
variable {g_aq p_aq}
theorem ev_ar (k : Nat) (x0 : Dm (.imm S_BatBatch)) : E_ar g_aq p_aq k (x0, ()) =
 (bif (fitL [] x0.2.2.2.2.1) then (bif (fitL [] x0.2.2.2.2.2) then (r_ar g_aq p_aq (x0, ()) k pt0 (h0_ar x0 (0 : Int) (0 : Int) (0 : Int) (0 : Int) [] [] [] [] (List.append [] x0.2.2.2.2.1) (List.append [] x0.2.2.2.2.2))) else none) else none) := by kernel_rfl
theorem rd0_ar (k : Nat) (x0 : Dm (.imm S_BatBatch)) (h0 : Dn I) (h1 : Dn I) (h2 : Dn I) (h3 : Dn I) (h4 : (List (Dn S_TstTest))) (h5 : (List (Dn S_BatSig))) (h6 : (List (Dn Sh.bool))) (h7 : (List (Dn S_TstTest))) (h8 : (List (Dn S_BatSig))) (h9 : (List (Dn Sh.bool))) : r_ar g_aq p_aq (x0, ()) (k + 1) pt0 (h0_ar x0 h0 h1 h2 h3 h4 h5 h6 h7 h8 h9) =
 (bif (decide (h0 < (List.length x0.2.2.1 : Int))) then (bif (bif (decide ((0 : Int) <= h0)) then (decide (h0 < (List.length x0.2.2.1 : Int))) else false) then (cl (p_aq ((rdL (e := S_TstTest) x0.2.2.1 h0), ())) (g_aq ((rdL (e := S_TstTest) x0.2.2.1 h0), ())) fun y0 => (bif (fitL h7 [(y0.1)]) then (r_ar g_aq p_aq (x0, ()) k pt0 (h0_ar x0 (w64 (h0 + (1 : Int))) h1 h2 h3 h4 h5 h6 (List.append h7 [(y0.1)]) h8 h9)) else none)) else none) else (some ((x0.1, (x0.2.1, (h7, (x0.2.2.2.1, (h8, h9))))), ()))) := by kernel_rfl
theorem S_ar (h_aq : C_aq p_aq g_aq) {pre fn} (hev : Hq (E_ar g_aq p_aq) pre fn) : C_ar pre fn := sound tysOk mixed (fn := Tryz.f86) rfl rfl rfl (.cons h_aq .nil) _ hev
end
abbrev M_as : Lm := [.imm S_HouHouse]
abbrev R_as : Lr := [(.own, S_HouHouse)]
abbrev In_as := Iq M_as
abbrev Out_as := Oq R_as M_as
abbrev C_as := Cq 63 M_as R_as
section
variable (g_ap : In_ap -> Out_ap) (p_ap : In_ap -> Bool) (g_ar : In_ar -> Out_ar) (p_ar : In_ar -> Bool)
abbrev X_as : Ctx := ctx tys 32 (conOf [(136, ⟨M_ap, R_ap, p_ap, g_ap⟩), (86, ⟨M_ar, R_ar, p_ar, g_ar⟩)]) (keepOf [(pt0, (⟨[(1, .asis), (2, .asis), (3, .asis), (4, .asis)], [(1, .asis), (2, (.pair .own (.pair .own .own))), (3, (.pair .own (.pair .own .own)))], []⟩ : Keep))]) nF
abbrev E_as := evFn (X_as g_ap p_ap g_ar p_ar) Tryz.f63 R_as M_as
def h0_as (x0 : Dm (.imm S_HouHouse)) (h0 : Dn I) (h1 : (List (Dn I))) (h2 : (List (Dn S_SpcSpec))) (h3 : (List (Dn S_BatBatch))) (h4 : (List (Dn I))) (h5 : (List (Dn S_SpcSpec))) (h6 : (List (Dn S_BatBatch))) : St := mkS [(1, (AV.ptr 1 none [])), (2, (AV.ptr 2 none [])), (3, (AV.ptr 3 none [])), (4, (AV.val I h0))] [(1, (Ob.box S_HouHouse (AV.val S_HouHouse x0))), (2, (Ob.box S_HouHouse (AV.pair (AV.sref 2502 none []) (AV.pair (AV.sref 12502 none []) (AV.sref 22502 none []))))), (2502, (Ob.arr 3 I h1)), (12502, (Ob.arr 83 S_SpcSpec h2)), (22502, (Ob.arr 45 S_BatBatch h3)), (3, (Ob.box S_HouHouse (AV.pair (AV.sref 2503 none []) (AV.pair (AV.sref 12503 none []) (AV.sref 22503 none []))))), (2503, (Ob.arr 3 I h4)), (12503, (Ob.arr 83 S_SpcSpec h5)), (22503, (Ob.arr 45 S_BatBatch h6))]
def r_as := rounds (X_as g_ap p_ap g_ar p_ar) Tryz.f63 R_as M_as
variable {g_ap p_ap g_ar p_ar}
theorem ev_as (k : Nat) (x0 : Dm (.imm S_HouHouse)) : E_as g_ap p_ap g_ar p_ar k (x0, ()) =
 (bif (fitL [] x0.1) then (cl (p_ap (x0.2.1, ())) (g_ap (x0.2.1, ())) fun y0 => (r_as g_ap p_ap g_ar p_ar (x0, ()) k pt0 (h0_as x0 (0 : Int) [] [] [] (List.append [] x0.1) (y0.1) []))) else none) := by kernel_rfl
theorem rd0_as (k : Nat) (x0 : Dm (.imm S_HouHouse)) (h0 : Dn I) (h1 : (List (Dn I))) (h2 : (List (Dn S_SpcSpec))) (h3 : (List (Dn S_BatBatch))) (h4 : (List (Dn I))) (h5 : (List (Dn S_SpcSpec))) (h6 : (List (Dn S_BatBatch))) : r_as g_ap p_ap g_ar p_ar (x0, ()) (k + 1) pt0 (h0_as x0 h0 h1 h2 h3 h4 h5 h6) =
 (bif (decide (h0 < (List.length x0.2.2 : Int))) then (bif (bif (decide ((0 : Int) <= h0)) then (decide (h0 < (List.length x0.2.2 : Int))) else false) then (cl (p_ar ((rdL (e := S_BatBatch) x0.2.2 h0), ())) (g_ar ((rdL (e := S_BatBatch) x0.2.2 h0), ())) fun y0 => (bif (fitL h6 [(y0.1)]) then (r_as g_ap p_ap g_ar p_ar (x0, ()) k pt0 (h0_as x0 (w64 (h0 + (1 : Int))) h1 h2 h3 h4 h5 (List.append h6 [(y0.1)]))) else none)) else none) else (some ((h4, (h5, h6)), ()))) := by kernel_rfl
theorem S_as (h_ap : C_ap p_ap g_ap) (h_ar : C_ar p_ar g_ar) {pre fn} (hev : Hq (E_as g_ap p_ap g_ar p_ar) pre fn) : C_as pre fn := sound tysOk mixed (fn := Tryz.f63) rfl rfl rfl (.cons h_ap (.cons h_ar .nil)) _ hev
end
abbrev M_at : Lm := [.imm S_DecDec, .imm S_DecDec]
abbrev R_at : Lr := [(.imm, I)]
abbrev In_at := Iq M_at
abbrev Out_at := Oq R_at M_at
abbrev C_at := Cq 186 M_at R_at
section
variable (g_ab : In_ab -> Out_ab) (g_ad : In_ad -> Out_ad) (p_ad : In_ad -> Bool)
abbrev X_at : Ctx := ctx tys 29 (conOf [(69, ⟨M_ab, R_ab, fun _ => true, g_ab⟩), (192, ⟨M_ad, R_ad, p_ad, g_ad⟩)]) (keepOf []) nF
abbrev E_at := evFn (X_at g_ab g_ad p_ad) Tryz.f186 R_at M_at
variable {g_ab g_ad p_ad}
theorem ev_at (k : Nat) (x0 : Dm (.imm S_DecDec)) (x1 : Dm (.imm S_DecDec)) : E_at g_ab g_ad p_ad k (x0, x1, ()) =
 (bif (bif (g_ab (x0, ())).1 then false else true) then (some ((0 : Int), ())) else (bif (bif (g_ab (x1, ())).1 then false else true) then (some ((0 : Int), ())) else (bif (p_ad (x0, ((3 : Int), ()))) then (bif (p_ad (x1, ((3 : Int), ()))) then (bif (decide ((g_ad (x0, ((3 : Int), ()))).1.1 < (g_ad (x1, ((3 : Int), ()))).1.1)) then (some ((-1 : Int), ())) else (bif (decide ((g_ad (x1, ((3 : Int), ()))).1.1 < (g_ad (x0, ((3 : Int), ()))).1.1)) then (some ((1 : Int), ())) else (some ((0 : Int), ())))) else none) else none))) := by kernel_rfl
theorem S_at (h_ab : C_ab (fun _ => true) g_ab) (h_ad : C_ad p_ad g_ad) {pre fn} (hev : Hq (E_at g_ab g_ad p_ad) pre fn) : C_at pre fn := sound tysOk mixed (fn := Tryz.f186) rfl rfl rfl (.cons h_ab (.cons h_ad .nil)) _ hev
end
abbrev M_au : Lm := [.imm S_SpcTest]
abbrev R_au : Lr := [(.imm, .bool)]
abbrev In_au := Iq M_au
abbrev Out_au := Oq R_au M_au
abbrev C_au := Cq 139 M_au R_au
section
variable (g_a3 : In_a3 -> Out_a3) (g_ab : In_ab -> Out_ab) (g_at : In_at -> Out_at)
abbrev X_au : Ctx := ctx tys 29 (conOf [(66, ⟨M_a3, R_a3, fun _ => true, g_a3⟩), (69, ⟨M_ab, R_ab, fun _ => true, g_ab⟩), (186, ⟨M_at, R_at, fun _ => true, g_at⟩)]) (keepOf []) nF
abbrev E_au := evFn (X_au g_a3 g_ab g_at) Tryz.f139 R_au M_au
variable {g_a3 g_ab g_at}
theorem ev_au (k : Nat) (x0 : Dm (.imm S_SpcTest)) : E_au g_a3 g_ab g_at k (x0, ()) =
 (bif (g_a3 (x0.1, ((1 : Int), ((4 : Int), ())))).1 then (bif (g_ab (x0.2.1, ())).1 then (bif (g_ab (x0.2.2.1, ())).1 then (bif (decide ((g_at (x0.2.1, (x0.2.2.1, ()))).1 <= (0 : Int))) then (some ((g_a3 (x0.2.2.2, ((0 : Int), ((3 : Int), ())))).1, ())) else (some (false, ()))) else (some (false, ()))) else (some (false, ()))) else (some (false, ()))) := by kernel_rfl
theorem S_au (h_a3 : C_a3 (fun _ => true) g_a3) (h_ab : C_ab (fun _ => true) g_ab) (h_at : C_at (fun _ => true) g_at) {pre fn} (hev : Hq (E_au g_a3 g_ab g_at) pre fn) : C_au pre fn := sound tysOk mixed (fn := Tryz.f139) rfl rfl rfl (.cons h_a3 (.cons h_ab (.cons h_at .nil))) _ hev
end
abbrev M_av : Lm := [.imm L_SpcTest]
abbrev R_av : Lr := [(.imm, .bool)]
abbrev In_av := Iq M_av
abbrev Out_av := Oq R_av M_av
abbrev C_av := Cq 70 M_av R_av
section
variable (g_a3 : In_a3 -> Out_a3) (g_au : In_au -> Out_au)
abbrev X_av : Ctx := ctx tys 38 (conOf [(66, ⟨M_a3, R_a3, fun _ => true, g_a3⟩), (139, ⟨M_au, R_au, fun _ => true, g_au⟩)]) (keepOf [(pt0, (⟨[(0, .asis), (3, .asis)], [], []⟩ : Keep))]) nF
abbrev E_av := evFn (X_av g_a3 g_au) Tryz.f70 R_av M_av
def h0_av (x0 : Dm (.imm L_SpcTest)) (h0 : Dn I) : St := mkS [(0, (AV.val L_SpcTest x0)), (3, (AV.val I h0))] []
def r_av := rounds (X_av g_a3 g_au) Tryz.f70 R_av M_av
variable {g_a3 g_au}
theorem ev_av (k : Nat) (x0 : Dm (.imm L_SpcTest)) : E_av g_a3 g_au k (x0, ()) =
 (bif (bif (g_a3 ((List.length x0 : Int), ((1 : Int), ((4 : Int), ())))).1 then false else true) then (some (false, ())) else (r_av g_a3 g_au (x0, ()) k pt0 (h0_av x0 (0 : Int)))) := by kernel_rfl
theorem rd0_av (k : Nat) (x0 : Dm (.imm L_SpcTest)) (h0 : Dn I) : r_av g_a3 g_au (x0, ()) (k + 1) pt0 (h0_av x0 h0) =
 (bif (decide (h0 < (List.length x0 : Int))) then (bif (bif (decide ((0 : Int) <= h0)) then (decide (h0 < (List.length x0 : Int))) else false) then (bif (bif (g_au ((rdL (e := S_SpcTest) x0 h0), ())).1 then false else true) then (some (false, ())) else (bif (decide ((0 : Int) < h0)) then (bif (bif (decide ((0 : Int) <= (w64 (h0 - (1 : Int))))) then (decide ((w64 (h0 - (1 : Int))) < (List.length x0 : Int))) else false) then (bif (bif (decide ((0 : Int) <= h0)) then (decide (h0 < (List.length x0 : Int))) else false) then (bif (decide ((rdL (e := S_SpcTest) x0 h0).1 <= (rdL (e := S_SpcTest) x0 (w64 (h0 - (1 : Int)))).1)) then (some (false, ())) else (r_av g_a3 g_au (x0, ()) k pt0 (h0_av x0 (w64 (h0 + (1 : Int)))))) else none) else none) else (r_av g_a3 g_au (x0, ()) k pt0 (h0_av x0 (w64 (h0 + (1 : Int))))))) else none) else (some (true, ()))) := by kernel_rfl
theorem S_av (h_a3 : C_a3 (fun _ => true) g_a3) (h_au : C_au (fun _ => true) g_au) {pre fn} (hev : Hq (E_av g_a3 g_au) pre fn) : C_av pre fn := sound tysOk mixed (fn := Tryz.f70) rfl rfl rfl (.cons h_a3 (.cons h_au .nil)) _ hev
end
abbrev M_aw : Lm := [.imm L_SpcSpec]
abbrev R_aw : Lr := [(.imm, .bool)]
abbrev In_aw := Iq M_aw
abbrev Out_aw := Oq R_aw M_aw
abbrev C_aw := Cq 111 M_aw R_aw
section
variable (g_av : In_av -> Out_av) (g_a3 : In_a3 -> Out_a3)
abbrev X_aw : Ctx := ctx tys 40 (conOf [(70, ⟨M_av, R_av, fun _ => true, g_av⟩), (66, ⟨M_a3, R_a3, fun _ => true, g_a3⟩)]) (keepOf [(pt2, (⟨[(0, .asis), (3, .asis), (4, .asis)], [], []⟩ : Keep))]) nF
abbrev E_aw := evFn (X_aw g_av g_a3) Tryz.f111 R_aw M_aw
def h0_aw (x0 : Dm (.imm L_SpcSpec)) (h0 : Dn I) (h1 : Dn I) : St := mkS [(0, (AV.val L_SpcSpec x0)), (3, (AV.val I h0)), (4, (AV.val I h1))] []
def r_aw := rounds (X_aw g_av g_a3) Tryz.f111 R_aw M_aw
variable {g_av g_a3}
theorem ev_aw (k : Nat) (x0 : Dm (.imm L_SpcSpec)) : E_aw g_av g_a3 k (x0, ()) =
 (bif (decide ((6 : Int) < (List.length x0 : Int))) then (some (false, ())) else (r_aw g_av g_a3 (x0, ()) k pt2 (h0_aw x0 (0 : Int) (0 : Int)))) := by kernel_rfl
theorem rd0_aw (k : Nat) (x0 : Dm (.imm L_SpcSpec)) (h0 : Dn I) (h1 : Dn I) : r_aw g_av g_a3 (x0, ()) (k + 1) pt2 (h0_aw x0 h0 h1) =
 (bif (decide (h1 < (List.length x0 : Int))) then (bif (bif (decide ((0 : Int) <= h1)) then (decide (h1 < (List.length x0 : Int))) else false) then (bif (bif (g_av ((rdL (e := S_SpcSpec) x0 h1).1, ())).1 then false else true) then (some (false, ())) else (bif (bif (decide ((0 : Int) <= h1)) then (decide (h1 < (List.length x0 : Int))) else false) then (bif (bif (g_a3 ((rdL (e := S_SpcSpec) x0 h1).2, ((1 : Int), ((3 : Int), ())))).1 then false else true) then (some (false, ())) else (bif (bif (decide ((0 : Int) <= h1)) then (decide (h1 < (List.length x0 : Int))) else false) then (bif (decide ((rdL (e := S_SpcSpec) x0 h1).2 = (2 : Int))) then (r_aw g_av g_a3 (x0, ()) k pt2 (h0_aw x0 (w64 (h0 + (1 : Int))) (w64 (h1 + (1 : Int))))) else (r_aw g_av g_a3 (x0, ()) k pt2 (h0_aw x0 h0 (w64 (h1 + (1 : Int)))))) else none)) else none)) else none) else (some ((decide (h0 <= (1 : Int))), ()))) := by kernel_rfl
theorem S_aw (h_av : C_av (fun _ => true) g_av) (h_a3 : C_a3 (fun _ => true) g_a3) {pre fn} (hev : Hq (E_aw g_av g_a3) pre fn) : C_aw pre fn := sound tysOk mixed (fn := Tryz.f111) rfl rfl rfl (.cons h_av (.cons h_a3 .nil)) _ hev
end
abbrev M_ax : Lm := [.imm L_SpcSpec, .imm L_SpcTest]
abbrev R_ax : Lr := [(.own, L_SpcSpec), (.imm, .bool)]
abbrev In_ax := Iq M_ax
abbrev Out_ax := Oq R_ax M_ax
abbrev C_ax := Cq 178 M_ax R_ax
section
variable (g_ap : In_ap -> Out_ap) (p_ap : In_ap -> Bool) (g_aw : In_aw -> Out_aw) (g_av : In_av -> Out_av)
abbrev X_ax : Ctx := ctx tys 30 (conOf [(136, ⟨M_ap, R_ap, p_ap, g_ap⟩), (111, ⟨M_aw, R_aw, fun _ => true, g_aw⟩), (70, ⟨M_av, R_av, fun _ => true, g_av⟩)]) (keepOf []) nF
abbrev E_ax := evFn (X_ax g_ap p_ap g_aw g_av) Tryz.f178 R_ax M_ax
variable {g_ap p_ap g_aw g_av}
theorem ev_ax (k : Nat) (x0 : Dm (.imm L_SpcSpec)) (x1 : Dm (.imm L_SpcTest)) : E_ax g_ap p_ap g_aw g_av k (x0, x1, ()) =
 (bif (p_ap (x0, ())) then (bif (bif (g_aw (x0, ())).1 then false else true) then (some ((g_ap (x0, ())).1, (false, ()))) else (bif (bif (g_av (x1, ())).1 then false else true) then (some ((g_ap (x0, ())).1, (false, ()))) else (bif (decide ((List.length x0 : Int) = (6 : Int))) then (some ((g_ap (x0, ())).1, (false, ()))) else (bif (fitL [] x1) then (bif (fitL (g_ap (x0, ())).1 [((List.append [] x1), (1 : Int))]) then (some ((List.append (g_ap (x0, ())).1 [((List.append [] x1), (1 : Int))]), (true, ()))) else none) else none)))) else none) := by kernel_rfl
theorem S_ax (h_ap : C_ap p_ap g_ap) (h_aw : C_aw (fun _ => true) g_aw) (h_av : C_av (fun _ => true) g_av) {pre fn} (hev : Hq (E_ax g_ap p_ap g_aw g_av) pre fn) : C_ax pre fn := sound tysOk mixed (fn := Tryz.f178) rfl rfl rfl (.cons h_ap (.cons h_aw (.cons h_av .nil))) _ hev
end
abbrev M_ay : Lm := [.imm L_SpcSpec, .imm I]
abbrev R_ay : Lr := [(.own, L_SpcSpec), (.imm, .bool)]
abbrev In_ay := Iq M_ay
abbrev Out_ay := Oq R_ay M_ay
abbrev C_ay := Cq 179 M_ay R_ay
section
variable (g_ap : In_ap -> Out_ap) (p_ap : In_ap -> Bool) (g_aw : In_aw -> Out_aw) (g_a3 : In_a3 -> Out_a3)
abbrev X_ay : Ctx := ctx tys 51 (conOf [(136, ⟨M_ap, R_ap, p_ap, g_ap⟩), (111, ⟨M_aw, R_aw, fun _ => true, g_aw⟩), (66, ⟨M_a3, R_a3, fun _ => true, g_a3⟩)]) (keepOf [(pt2, (⟨[(1, .asis), (6, .own), (7, .asis)], [], []⟩ : Keep))]) nF
abbrev E_ay := evFn (X_ay g_ap p_ap g_aw g_a3) Tryz.f179 R_ay M_ay
def h0_ay (x0 : Dm (.imm L_SpcSpec)) (x1 : Dm (.imm I)) (h0 : Dn I) (h1 : (List (Dn S_SpcSpec))) : St := mkS [(1, (AV.val I x1)), (6, (AV.sref 2506 none [])), (7, (AV.val I h0))] [(2506, (Ob.arr 83 S_SpcSpec h1))]
def r_ay := rounds (X_ay g_ap p_ap g_aw g_a3) Tryz.f179 R_ay M_ay
variable {g_ap p_ap g_aw g_a3}
theorem ev_ay (k : Nat) (x0 : Dm (.imm L_SpcSpec)) (x1 : Dm (.imm I)) : E_ay g_ap p_ap g_aw g_a3 k (x0, x1, ()) =
 (bif (p_ap (x0, ())) then (bif (bif (g_aw (x0, ())).1 then false else true) then (some ((g_ap (x0, ())).1, (false, ()))) else (bif (bif (g_a3 (x1, ((0 : Int), ((w64 ((List.length x0 : Int) - (1 : Int))), ())))).1 then false else true) then (some ((g_ap (x0, ())).1, (false, ()))) else (bif (bif (decide ((0 : Int) <= x1)) then (decide (x1 < (List.length x0 : Int))) else false) then (bif (bif (decide ((rdL (e := S_SpcSpec) x0 x1).2 = (1 : Int))) then false else true) then (some ((g_ap (x0, ())).1, (false, ()))) else (r_ay g_ap p_ap g_aw g_a3 (x0, x1, ()) k pt2 (h0_ay x0 x1 (0 : Int) ((g_ap (x0, ())).1)))) else none))) else none) := by kernel_rfl
theorem rd0_ay (k : Nat) (x0 : Dm (.imm L_SpcSpec)) (x1 : Dm (.imm I)) (h0 : Dn I) (h1 : (List (Dn S_SpcSpec))) : r_ay g_ap p_ap g_aw g_a3 (x0, x1, ()) (k + 1) pt2 (h0_ay x0 x1 h0 h1) =
 (bif (decide (h0 < (List.length h1 : Int))) then (bif (bif (decide ((0 : Int) <= h0)) then (decide (h0 < (List.length h1 : Int))) else false) then (bif (decide ((rdL (e := S_SpcSpec) h1 h0).2 = (2 : Int))) then (bif (bif (decide ((0 : Int) <= h0)) then (decide (h0 < (List.length h1 : Int))) else false) then (r_ay g_ap p_ap g_aw g_a3 (x0, x1, ()) k pt2 (h0_ay x0 x1 (w64 (h0 + (1 : Int))) (List.set h1 (Int.toNat h0) ((rdL (e := S_SpcSpec) h1 h0).1, (3 : Int))))) else none) else (r_ay g_ap p_ap g_aw g_a3 (x0, x1, ()) k pt2 (h0_ay x0 x1 (w64 (h0 + (1 : Int))) h1))) else none) else (bif (bif (decide ((0 : Int) <= x1)) then (decide (x1 < (List.length h1 : Int))) else false) then (some ((List.set h1 (Int.toNat x1) ((rdL (e := S_SpcSpec) h1 x1).1, (2 : Int))), (true, ()))) else none)) := by kernel_rfl
theorem S_ay (h_ap : C_ap p_ap g_ap) (h_aw : C_aw (fun _ => true) g_aw) (h_a3 : C_a3 (fun _ => true) g_a3) {pre fn} (hev : Hq (E_ay g_ap p_ap g_aw g_a3) pre fn) : C_ay pre fn := sound tysOk mixed (fn := Tryz.f179) rfl rfl rfl (.cons h_ap (.cons h_aw (.cons h_a3 .nil))) _ hev
end
abbrev M_az : Lm := [.own S_HouHouse, .imm S_ReqReq]
abbrev R_az : Lr := [(.own, S_HouHouse), (.imm, I)]
abbrev In_az := Iq M_az
abbrev Out_az := Oq R_az M_az
abbrev C_az := Cq 133 M_az R_az
section
variable (g_ax : In_ax -> Out_ax) (p_ax : In_ax -> Bool) (g_ay : In_ay -> Out_ay) (p_ay : In_ay -> Bool)
abbrev X_az : Ctx := ctx tys 48 (conOf [(178, ⟨M_ax, R_ax, p_ax, g_ax⟩), (179, ⟨M_ay, R_ay, p_ay, g_ay⟩)]) (keepOf []) nF
abbrev E_az := evFn (X_az g_ax p_ax g_ay p_ay) Tryz.f133 R_az M_az
variable {g_ax p_ax g_ay p_ay}
theorem ev_az (k : Nat) (x0 : Dm (.own S_HouHouse)) (x1 : Dm (.imm S_ReqReq)) : E_az g_ax p_ax g_ay p_ay k (x0, x1, ()) =
 (bif (decide (x1.2.1 = (1 : Int))) then (cl (p_ax (x0.2.1, (x1.2.2.2.2.2.2, ()))) (g_ax (x0.2.1, (x1.2.2.2.2.2.2, ()))) fun y0 => (bif (bif y0.2.1 then false else true) then (some (x0, ((6 : Int), ()))) else (some ((x0.1, (y0.1, x0.2.2)), ((1 : Int), ()))))) else (bif (decide ((List.length x0.2.1 : Int) <= x1.2.2.2.2.1)) then (some (x0, ((4 : Int), ()))) else (cl (p_ay (x0.2.1, (x1.2.2.2.2.1, ()))) (g_ay (x0.2.1, (x1.2.2.2.2.1, ()))) fun y1 => (bif (bif y1.2.1 then false else true) then (some (x0, ((5 : Int), ()))) else (some ((x0.1, (y1.1, x0.2.2)), ((1 : Int), ()))))))) := by kernel_rfl
theorem S_az (h_ax : C_ax p_ax g_ax) (h_ay : C_ay p_ay g_ay) {pre fn} (hev : Hq (E_az g_ax p_ax g_ay p_ay) pre fn) : C_az pre fn := sound tysOk mixed (fn := Tryz.f133) rfl rfl rfl (.cons h_ax (.cons h_ay .nil)) _ hev
end
abbrev M_b0 : Lm := [.imm S_SpcTest]
abbrev R_b0 : Lr := [(.own, S_TstTest)]
abbrev In_b0 := Iq M_b0
abbrev Out_b0 := Oq R_b0 M_b0
abbrev C_b0 := Cq 180 M_b0 R_b0
abbrev X_b0 : Ctx := ctx tys 5 (conOf []) (keepOf []) nF
abbrev E_b0 := evFn X_b0 Tryz.f180 R_b0 M_b0
theorem ev_b0 (k : Nat) (x0 : Dm (.imm S_SpcTest)) : E_b0 k (x0, ()) =
 (some ((x0, ((0 : Int), (((0 : Int), (0 : Int)), ((0 : Int), [])))), ())) := by kernel_rfl
theorem S_b0  {pre fn} (hev : Hq E_b0 pre fn) : C_b0 pre fn := sound tysOk mixed (fn := Tryz.f180) rfl rfl rfl ConsOk.nil _ hev
abbrev M_b1 : Lm := [.imm I, .imm L_SpcTest, .imm I]
abbrev R_b1 : Lr := [(.own, S_BatBatch)]
abbrev In_b1 := Iq M_b1
abbrev Out_b1 := Oq R_b1 M_b1
abbrev C_b1 := Cq 123 M_b1 R_b1
section
variable (g_a3 : In_a3 -> Out_a3) (g_av : In_av -> Out_av) (g_b0 : In_b0 -> Out_b0)
abbrev X_b1 : Ctx := ctx tys 43 (conOf [(66, ⟨M_a3, R_a3, fun _ => true, g_a3⟩), (70, ⟨M_av, R_av, fun _ => true, g_av⟩), (180, ⟨M_b0, R_b0, fun _ => true, g_b0⟩)]) (keepOf [(pt2, (⟨[(1, .asis), (6, .asis), (7, .asis), (8, .asis)], [(6, (.pair .asis (.pair .asis (.pair .own (.pair .asis (.pair .own .own)))))), (7, (.pair .asis (.pair .asis (.pair .own (.pair .asis (.pair .own .own))))))], []⟩ : Keep))]) nF
abbrev E_b1 := evFn (X_b1 g_a3 g_av g_b0) Tryz.f123 R_b1 M_b1
def h0_b1 (x0 : Dm (.imm I)) (x1 : Dm (.imm L_SpcTest)) (x2 : Dm (.imm I)) (h0 : Dn I) (h1 : Dn I) (h2 : Dn I) (h3 : Dn I) (h4 : (List (Dn S_TstTest))) (h5 : (List (Dn S_BatSig))) (h6 : (List (Dn Sh.bool))) (h7 : Dn I) (h8 : (List (Dn S_TstTest))) (h9 : (List (Dn S_BatSig))) (h10 : (List (Dn Sh.bool))) : St := mkS [(1, (AV.val L_SpcTest x1)), (6, (AV.ptr 6 none [])), (7, (AV.ptr 7 none [])), (8, (AV.val I h0))] [(6, (Ob.box S_BatBatch (AV.pair (AV.val I h1) (AV.pair (AV.val I h2) (AV.pair (AV.sref 2506 none []) (AV.pair (AV.val I h3) (AV.pair (AV.sref 12506 none []) (AV.sref 22506 none [])))))))), (2506, (Ob.arr 56 S_TstTest h4)), (12506, (Ob.arr 58 S_BatSig h5)), (22506, (Ob.arr 4 Sh.bool h6)), (7, (Ob.box S_BatBatch (AV.pair (AV.val I x0) (AV.pair (AV.val I x2) (AV.pair (AV.sref 2507 none []) (AV.pair (AV.val I h7) (AV.pair (AV.sref 12507 none []) (AV.sref 22507 none [])))))))), (2507, (Ob.arr 56 S_TstTest h8)), (12507, (Ob.arr 58 S_BatSig h9)), (22507, (Ob.arr 4 Sh.bool h10))]
def r_b1 := rounds (X_b1 g_a3 g_av g_b0) Tryz.f123 R_b1 M_b1
variable {g_a3 g_av g_b0}
theorem ev_b1 (k : Nat) (x0 : Dm (.imm I)) (x1 : Dm (.imm L_SpcTest)) (x2 : Dm (.imm I)) : E_b1 g_a3 g_av g_b0 k (x0, x1, x2, ()) =
 (bif (bif (g_a3 (x0, ((0 : Int), ((5 : Int), ())))).1 then false else true) then (some (((0 : Int), ((0 : Int), ([], ((0 : Int), ([], []))))), ())) else (bif (bif (g_av (x1, ())).1 then false else true) then (some (((0 : Int), ((0 : Int), ([], ((0 : Int), ([], []))))), ())) else (bif (bif (g_a3 (x2, ((1 : Int), ((10000 : Int), ())))).1 then false else true) then (some (((0 : Int), ((0 : Int), ([], ((0 : Int), ([], []))))), ())) else (r_b1 g_a3 g_av g_b0 (x0, x1, x2, ()) k pt2 (h0_b1 x0 x1 x2 (0 : Int) (0 : Int) (0 : Int) (0 : Int) [] [] [] (1 : Int) [] [] []))))) := by kernel_rfl
theorem rd0_b1 (k : Nat) (x0 : Dm (.imm I)) (x1 : Dm (.imm L_SpcTest)) (x2 : Dm (.imm I)) (h0 : Dn I) (h1 : Dn I) (h2 : Dn I) (h3 : Dn I) (h4 : (List (Dn S_TstTest))) (h5 : (List (Dn S_BatSig))) (h6 : (List (Dn Sh.bool))) (h7 : Dn I) (h8 : (List (Dn S_TstTest))) (h9 : (List (Dn S_BatSig))) (h10 : (List (Dn Sh.bool))) : r_b1 g_a3 g_av g_b0 (x0, x1, x2, ()) (k + 1) pt2 (h0_b1 x0 x1 x2 h0 h1 h2 h3 h4 h5 h6 h7 h8 h9 h10) =
 (bif (decide (h0 < (List.length x1 : Int))) then (bif (bif (decide ((0 : Int) <= h0)) then (decide (h0 < (List.length x1 : Int))) else false) then (bif (fitL h8 [((g_b0 ((rdL (e := S_SpcTest) x1 h0), ())).1)]) then (r_b1 g_a3 g_av g_b0 (x0, x1, x2, ()) k pt2 (h0_b1 x0 x1 x2 (w64 (h0 + (1 : Int))) h1 h2 h3 h4 h5 h6 h7 (List.append h8 [((g_b0 ((rdL (e := S_SpcTest) x1 h0), ())).1)]) h9 h10)) else none) else none) else (some ((x0, (x2, (h8, (h7, (h9, h10))))), ()))) := by kernel_rfl
theorem S_b1 (h_a3 : C_a3 (fun _ => true) g_a3) (h_av : C_av (fun _ => true) g_av) (h_b0 : C_b0 (fun _ => true) g_b0) {pre fn} (hev : Hq (E_b1 g_a3 g_av g_b0) pre fn) : C_b1 pre fn := sound tysOk mixed (fn := Tryz.f123) rfl rfl rfl (.cons h_a3 (.cons h_av (.cons h_b0 .nil))) _ hev
end
abbrev M_b2 : Lm := [.own S_HouHouse, .imm S_ReqReq]
abbrev R_b2 : Lr := [(.own, S_HouHouse), (.imm, I)]
abbrev In_b2 := Iq M_b2
abbrev Out_b2 := Oq R_b2 M_b2
abbrev C_b2 := Cq 134 M_b2 R_b2
section
variable (g_a9 : In_a9 -> Out_a9) (p_a9 : In_a9 -> Bool) (g_b1 : In_b1 -> Out_b1) (p_b1 : In_b1 -> Bool)
abbrev X_b2 : Ctx := ctx tys 38 (conOf [(172, ⟨M_a9, R_a9, p_a9, g_a9⟩), (123, ⟨M_b1, R_b1, p_b1, g_b1⟩)]) (keepOf []) nF
abbrev E_b2 := evFn (X_b2 g_a9 p_a9 g_b1 p_b1) Tryz.f134 R_b2 M_b2
variable {g_a9 p_a9 g_b1 p_b1}
theorem ev_b2 (k : Nat) (x0 : Dm (.own S_HouHouse)) (x1 : Dm (.imm S_ReqReq)) : E_b2 g_a9 p_a9 g_b1 p_b1 k (x0, x1, ()) =
 (cl (p_a9 (x0.2.1, ())) (g_a9 (x0.2.1, ())) fun y0 => (bif (decide (y0.1 < (0 : Int))) then (some (x0, ((4 : Int), ()))) else (bif (decide ((List.length x0.2.2 : Int) = (4 : Int))) then (some (x0, ((6 : Int), ()))) else (bif (decide (x1.2.2.2.2.1 = (0 : Int))) then (some (x0, ((5 : Int), ()))) else (bif (bif (decide ((0 : Int) <= y0.1)) then (decide (y0.1 < (List.length x0.2.1 : Int))) else false) then (cl (p_b1 (y0.1, ((rdL (e := S_SpcSpec) x0.2.1 y0.1).1, (x1.2.2.2.2.1, ())))) (g_b1 (y0.1, ((rdL (e := S_SpcSpec) x0.2.1 y0.1).1, (x1.2.2.2.2.1, ())))) fun y1 => (bif (fitL x0.2.2 [(y1.1)]) then (some ((x0.1, (x0.2.1, (List.append x0.2.2 [(y1.1)]))), ((1 : Int), ()))) else none)) else none))))) := by kernel_rfl
theorem S_b2 (h_a9 : C_a9 p_a9 g_a9) (h_b1 : C_b1 p_b1 g_b1) {pre fn} (hev : Hq (E_b2 g_a9 p_a9 g_b1 p_b1) pre fn) : C_b2 pre fn := sound tysOk mixed (fn := Tryz.f134) rfl rfl rfl (.cons h_a9 (.cons h_b1 .nil)) _ hev
end
abbrev M_b3 : Lm := [.imm I]
abbrev R_b3 : Lr := [(.imm, I)]
abbrev In_b3 := Iq M_b3
abbrev Out_b3 := Oq R_b3 M_b3
abbrev C_b3 := Cq 149 M_b3 R_b3
abbrev X_b3 : Ctx := ctx tys 8 (conOf []) (keepOf []) nF
abbrev E_b3 := evFn X_b3 Tryz.f149 R_b3 M_b3
theorem ev_b3 (k : Nat) (x0 : Dm (.imm I)) : E_b3 k (x0, ()) =
 (bif (decide (x0 = (1 : Int))) then (some ((1 : Int), ())) else (bif (decide (x0 = (2 : Int))) then (some ((2 : Int), ())) else (some ((0 : Int), ())))) := by kernel_rfl
theorem S_b3  {pre fn} (hev : Hq E_b3 pre fn) : C_b3 pre fn := sound tysOk mixed (fn := Tryz.f149) rfl rfl rfl ConsOk.nil _ hev
abbrev M_b4 : Lm := [.imm S_SpcTest, .imm S_DecDec]
abbrev R_b4 : Lr := [(.imm, .bool)]
abbrev In_b4 := Iq M_b4
abbrev Out_b4 := Oq R_b4 M_b4
abbrev C_b4 := Cq 151 M_b4 R_b4
section
variable (g_au : In_au -> Out_au) (g_ab : In_ab -> Out_ab) (g_ad : In_ad -> Out_ad) (p_ad : In_ad -> Bool) (g_at : In_at -> Out_at)
abbrev X_b4 : Ctx := ctx tys 30 (conOf [(139, ⟨M_au, R_au, fun _ => true, g_au⟩), (69, ⟨M_ab, R_ab, fun _ => true, g_ab⟩), (192, ⟨M_ad, R_ad, p_ad, g_ad⟩), (186, ⟨M_at, R_at, fun _ => true, g_at⟩)]) (keepOf []) nF
abbrev E_b4 := evFn (X_b4 g_au g_ab g_ad p_ad g_at) Tryz.f151 R_b4 M_b4
variable {g_au g_ab g_ad p_ad g_at}
theorem ev_b4 (k : Nat) (x0 : Dm (.imm S_SpcTest)) (x1 : Dm (.imm S_DecDec)) : E_b4 g_au g_ab g_ad p_ad g_at k (x0, x1, ()) =
 (bif (bif (g_au (x0, ())).1 then false else true) then (some (false, ())) else (bif (bif (g_ab (x1, ())).1 then false else true) then (some (false, ())) else (bif (p_ad (x1, (x0.2.2.2, ()))) then (bif (decide ((g_at (x0.2.1, ((g_ad (x1, (x0.2.2.2, ()))).1, ()))).1 <= (0 : Int))) then (some ((decide ((g_at ((g_ad (x1, (x0.2.2.2, ()))).1, (x0.2.2.1, ()))).1 <= (0 : Int))), ())) else (some (false, ()))) else none))) := by kernel_rfl
theorem S_b4 (h_au : C_au (fun _ => true) g_au) (h_ab : C_ab (fun _ => true) g_ab) (h_ad : C_ad p_ad g_ad) (h_at : C_at (fun _ => true) g_at) {pre fn} (hev : Hq (E_b4 g_au g_ab g_ad p_ad g_at) pre fn) : C_b4 pre fn := sound tysOk mixed (fn := Tryz.f151) rfl rfl rfl (.cons h_au (.cons h_ab (.cons h_ad (.cons h_at .nil)))) _ hev
end
abbrev M_b5 : Lm := [.imm L_DecDec, .imm I]
abbrev R_b5 : Lr := [(.imm, S_DecDec)]
abbrev In_b5 := Iq M_b5
abbrev Out_b5 := Oq R_b5 M_b5
abbrev C_b5 := Cq 221 M_b5 R_b5
section
variable (g_a3 : In_a3 -> Out_a3) (g_ab : In_ab -> Out_ab) (g_ad : In_ad -> Out_ad) (p_ad : In_ad -> Bool) (g_a5 : In_a5 -> Out_a5) (p_a5 : In_a5 -> Bool) (g_ac : In_ac -> Out_ac) (p_ac : In_ac -> Bool)
abbrev X_b5 : Ctx := ctx tys 52 (conOf [(66, ⟨M_a3, R_a3, fun _ => true, g_a3⟩), (69, ⟨M_ab, R_ab, fun _ => true, g_ab⟩), (192, ⟨M_ad, R_ad, p_ad, g_ad⟩), (138, ⟨M_a5, R_a5, p_a5, g_a5⟩), (210, ⟨M_ac, R_ac, p_ac, g_ac⟩)]) (keepOf [(pt2, (⟨[(0, .asis), (1, .asis), (4, .asis), (5, .asis), (6, .asis)], [(4, .asis)], []⟩ : Keep))]) nF
abbrev E_b5 := evFn (X_b5 g_a3 g_ab g_ad p_ad g_a5 p_a5 g_ac p_ac) Tryz.f221 R_b5 M_b5
def h0_b5 (x0 : Dm (.imm L_DecDec)) (x1 : Dm (.imm I)) (h0 : Dn I) (h1 : Dn I) (h2 : Dn S_DecDec) : St := mkS [(0, (AV.val L_DecDec x0)), (1, (AV.val I x1)), (4, (AV.ptr 4 none [])), (5, (AV.val I h0)), (6, (AV.val I h1))] [(4, (Ob.box S_DecDec (AV.val S_DecDec h2)))]
def r_b5 := rounds (X_b5 g_a3 g_ab g_ad p_ad g_a5 p_a5 g_ac p_ac) Tryz.f221 R_b5 M_b5
variable {g_a3 g_ab g_ad p_ad g_a5 p_a5 g_ac p_ac}
theorem ev_b5 (k : Nat) (x0 : Dm (.imm L_DecDec)) (x1 : Dm (.imm I)) : E_b5 g_a3 g_ab g_ad p_ad g_a5 p_a5 g_ac p_ac k (x0, x1, ()) =
 (bif (decide ((List.length x0 : Int) = (0 : Int))) then (some (((0 : Int), (0 : Int)), ())) else (bif (decide ((100 : Int) < (List.length x0 : Int))) then (some (((0 : Int), (0 : Int)), ())) else (bif (bif (g_a3 (x1, ((0 : Int), ((3 : Int), ())))).1 then false else true) then (some (((0 : Int), (0 : Int)), ())) else (r_b5 g_a3 g_ab g_ad p_ad g_a5 p_a5 g_ac p_ac (x0, x1, ()) k pt2 (h0_b5 x0 x1 (0 : Int) (0 : Int) ((0 : Int), (0 : Int))))))) := by kernel_rfl
theorem rd0_b5 (k : Nat) (x0 : Dm (.imm L_DecDec)) (x1 : Dm (.imm I)) (h0 : Dn I) (h1 : Dn I) (h2 : Dn S_DecDec) : r_b5 g_a3 g_ab g_ad p_ad g_a5 p_a5 g_ac p_ac (x0, x1, ()) (k + 1) pt2 (h0_b5 x0 x1 h0 h1 h2) =
 (bif (decide (h1 < (List.length x0 : Int))) then (bif (bif (decide ((0 : Int) <= h1)) then (decide (h1 < (List.length x0 : Int))) else false) then (bif (bif (g_ab ((rdL (e := S_DecDec) x0 h1), ())).1 then false else true) then (some (((0 : Int), (0 : Int)), ())) else (bif (bif (decide ((0 : Int) <= h1)) then (decide (h1 < (List.length x0 : Int))) else false) then (bif (p_ad ((rdL (e := S_DecDec) x0 h1), ((3 : Int), ()))) then (r_b5 g_a3 g_ab g_ad p_ad g_a5 p_a5 g_ac p_ac (x0, x1, ()) k pt2 (h0_b5 x0 x1 (w64 (h0 + (g_ad ((rdL (e := S_DecDec) x0 h1), ((3 : Int), ()))).1.1)) (w64 (h1 + (1 : Int))) h2)) else none) else none)) else none) else (bif (p_a5 ((w64 ((3 : Int) - x1)), ())) then (bif (p_ac (h0, ((w64 ((List.length x0 : Int) * (g_a5 ((w64 ((3 : Int) - x1)), ())).1)), ()))) then (some (((g_ac (h0, ((w64 ((List.length x0 : Int) * (g_a5 ((w64 ((3 : Int) - x1)), ())).1)), ()))).1, x1), ())) else none) else none)) := by kernel_rfl
theorem S_b5 (h_a3 : C_a3 (fun _ => true) g_a3) (h_ab : C_ab (fun _ => true) g_ab) (h_ad : C_ad p_ad g_ad) (h_a5 : C_a5 p_a5 g_a5) (h_ac : C_ac p_ac g_ac) {pre fn} (hev : Hq (E_b5 g_a3 g_ab g_ad p_ad g_a5 p_a5 g_ac p_ac) pre fn) : C_b5 pre fn := sound tysOk mixed (fn := Tryz.f221) rfl rfl rfl (.cons h_a3 (.cons h_ab (.cons h_ad (.cons h_a5 (.cons h_ac .nil))))) _ hev
end
abbrev M_b6 : Lm := [.imm S_TstTest]
abbrev R_b6 : Lr := [(.imm, S_DecDec)]
abbrev In_b6 := Iq M_b6
abbrev Out_b6 := Oq R_b6 M_b6
abbrev C_b6 := Cq 209 M_b6 R_b6
section
variable (g_ad : In_ad -> Out_ad) (p_ad : In_ad -> Bool) (g_b5 : In_b5 -> Out_b5) (p_b5 : In_b5 -> Bool)
abbrev X_b6 : Ctx := ctx tys 33 (conOf [(192, ⟨M_ad, R_ad, p_ad, g_ad⟩), (221, ⟨M_b5, R_b5, p_b5, g_b5⟩)]) (keepOf []) nF
abbrev E_b6 := evFn (X_b6 g_ad p_ad g_b5 p_b5) Tryz.f209 R_b6 M_b6
variable {g_ad p_ad g_b5 p_b5}
theorem ev_b6 (k : Nat) (x0 : Dm (.imm S_TstTest)) : E_b6 g_ad p_ad g_b5 p_b5 k (x0, ()) =
 (bif (decide (x0.2.2.2.1 = (1 : Int))) then (bif (bif (decide ((0 : Int) <= (0 : Int))) then (decide ((0 : Int) < (List.length x0.2.2.2.2 : Int))) else false) then (bif (p_ad ((rdL (e := S_DecDec) x0.2.2.2.2 (0 : Int)), (x0.1.2.2.2, ()))) then (some ((g_ad ((rdL (e := S_DecDec) x0.2.2.2.2 (0 : Int)), (x0.1.2.2.2, ()))).1, ())) else none) else none) else (bif (decide (x0.2.2.2.1 = (2 : Int))) then (bif (fitL [x0.2.2.1] x0.2.2.2.2) then (bif (p_b5 ((List.append [x0.2.2.1] x0.2.2.2.2), (x0.1.2.2.2, ()))) then (some ((g_b5 ((List.append [x0.2.2.1] x0.2.2.2.2), (x0.1.2.2.2, ()))).1, ())) else none) else none) else (bif (p_ad (x0.2.2.1, (x0.1.2.2.2, ()))) then (some ((g_ad (x0.2.2.1, (x0.1.2.2.2, ()))).1, ())) else none))) := by kernel_rfl
theorem S_b6 (h_ad : C_ad p_ad g_ad) (h_b5 : C_b5 p_b5 g_b5) {pre fn} (hev : Hq (E_b6 g_ad p_ad g_b5 p_b5) pre fn) : C_b6 pre fn := sound tysOk mixed (fn := Tryz.f209) rfl rfl rfl (.cons h_ad (.cons h_b5 .nil)) _ hev
end
abbrev M_b7 : Lm := [.imm S_TstTest]
abbrev R_b7 : Lr := [(.imm, .bool)]
abbrev In_b7 := Iq M_b7
abbrev Out_b7 := Oq R_b7 M_b7
abbrev C_b7 := Cq 191 M_b7 R_b7
section
variable (g_b4 : In_b4 -> Out_b4) (g_b6 : In_b6 -> Out_b6) (p_b6 : In_b6 -> Bool)
abbrev X_b7 : Ctx := ctx tys 25 (conOf [(151, ⟨M_b4, R_b4, fun _ => true, g_b4⟩), (209, ⟨M_b6, R_b6, p_b6, g_b6⟩)]) (keepOf [(pt1, (⟨[(1, .asis), (3, .asis)], [(1, .asis)], []⟩ : Keep))]) nF
abbrev E_b7 := evFn (X_b7 g_b4 g_b6 p_b6) Tryz.f191 R_b7 M_b7
def h0_b7 (x0 : Dm (.imm S_TstTest)) (h0 : Dn I) : St := mkS [(1, (AV.ptr 1 none [])), (3, (AV.val I h0))] [(1, (Ob.box S_TstTest (AV.val S_TstTest x0)))]
def r_b7 := rounds (X_b7 g_b4 g_b6 p_b6) Tryz.f191 R_b7 M_b7
variable {g_b4 g_b6 p_b6}
theorem ev_b7 (k : Nat) (x0 : Dm (.imm S_TstTest)) : E_b7 g_b4 g_b6 p_b6 k (x0, ()) =
 (r_b7 g_b4 g_b6 p_b6 (x0, ()) k pt1 (h0_b7 x0 (0 : Int))) := by kernel_rfl
theorem rd0_b7 (k : Nat) (x0 : Dm (.imm S_TstTest)) (h0 : Dn I) : r_b7 g_b4 g_b6 p_b6 (x0, ()) (k + 1) pt1 (h0_b7 x0 h0) =
 (bif (decide (h0 < (List.length x0.2.2.2.2 : Int))) then (bif (bif (decide ((0 : Int) <= h0)) then (decide (h0 < (List.length x0.2.2.2.2 : Int))) else false) then (bif (bif (g_b4 (x0.1, ((rdL (e := S_DecDec) x0.2.2.2.2 h0), ()))).1 then false else true) then (some (false, ())) else (r_b7 g_b4 g_b6 p_b6 (x0, ()) k pt1 (h0_b7 x0 (w64 (h0 + (1 : Int)))))) else none) else (bif (p_b6 (x0, ())) then (some ((g_b4 (x0.1, ((g_b6 (x0, ())).1, ()))).1, ())) else none)) := by kernel_rfl
theorem S_b7 (h_b4 : C_b4 (fun _ => true) g_b4) (h_b6 : C_b6 p_b6 g_b6) {pre fn} (hev : Hq (E_b7 g_b4 g_b6 p_b6) pre fn) : C_b7 pre fn := sound tysOk mixed (fn := Tryz.f191) rfl rfl rfl (.cons h_b4 (.cons h_b6 .nil)) _ hev
end
abbrev M_b8 : Lm := [.imm S_TstTest]
abbrev R_b8 : Lr := [(.imm, I)]
abbrev In_b8 := Iq M_b8
abbrev Out_b8 := Oq R_b8 M_b8
abbrev C_b8 := Cq 150 M_b8 R_b8
section
variable (g_b4 : In_b4 -> Out_b4) (g_b3 : In_b3 -> Out_b3) (g_b7 : In_b7 -> Out_b7) (p_b7 : In_b7 -> Bool)
abbrev X_b8 : Ctx := ctx tys 33 (conOf [(151, ⟨M_b4, R_b4, fun _ => true, g_b4⟩), (149, ⟨M_b3, R_b3, fun _ => true, g_b3⟩), (191, ⟨M_b7, R_b7, p_b7, g_b7⟩)]) (keepOf []) nF
abbrev E_b8 := evFn (X_b8 g_b4 g_b3 g_b7 p_b7) Tryz.f150 R_b8 M_b8
variable {g_b4 g_b3 g_b7 p_b7}
theorem ev_b8 (k : Nat) (x0 : Dm (.imm S_TstTest)) : E_b8 g_b4 g_b3 g_b7 p_b7 k (x0, ()) =
 (bif (decide (x0.2.2.2.1 = (0 : Int))) then (bif (g_b4 (x0.1, (x0.2.2.1, ()))).1 then (some ((3 : Int), ())) else (bif (decide (x0.2.2.2.1 = (0 : Int))) then (some ((1 : Int), ())) else (bif (decide (x0.2.2.2.1 = (3 : Int))) then (some ((4 : Int), ())) else (bif (decide ((List.length x0.2.2.2.2 : Int) < (g_b3 (x0.2.2.2.1, ())).1)) then (some ((2 : Int), ())) else (bif (p_b7 (x0, ())) then (bif (g_b7 (x0, ())).1 then (some ((3 : Int), ())) else (some ((4 : Int), ()))) else none))))) else (bif (decide (x0.2.2.2.1 = (0 : Int))) then (some ((1 : Int), ())) else (bif (decide (x0.2.2.2.1 = (3 : Int))) then (some ((4 : Int), ())) else (bif (decide ((List.length x0.2.2.2.2 : Int) < (g_b3 (x0.2.2.2.1, ())).1)) then (some ((2 : Int), ())) else (bif (p_b7 (x0, ())) then (bif (g_b7 (x0, ())).1 then (some ((3 : Int), ())) else (some ((4 : Int), ()))) else none))))) := by kernel_rfl
theorem S_b8 (h_b4 : C_b4 (fun _ => true) g_b4) (h_b3 : C_b3 (fun _ => true) g_b3) (h_b7 : C_b7 p_b7 g_b7) {pre fn} (hev : Hq (E_b8 g_b4 g_b3 g_b7 p_b7) pre fn) : C_b8 pre fn := sound tysOk mixed (fn := Tryz.f150) rfl rfl rfl (.cons h_b4 (.cons h_b3 (.cons h_b7 .nil))) _ hev
end
abbrev M_b9 : Lm := [.imm S_TstTest]
abbrev R_b9 : Lr := [(.imm, .bool)]
abbrev In_b9 := Iq M_b9
abbrev Out_b9 := Oq R_b9 M_b9
abbrev C_b9 := Cq 81 M_b9 R_b9
section
variable (g_au : In_au -> Out_au) (g_ab : In_ab -> Out_ab) (g_a3 : In_a3 -> Out_a3) (g_b3 : In_b3 -> Out_b3) (g_b8 : In_b8 -> Out_b8) (p_b8 : In_b8 -> Bool) (g_b4 : In_b4 -> Out_b4)
abbrev X_b9 : Ctx := ctx tys 73 (conOf [(139, ⟨M_au, R_au, fun _ => true, g_au⟩), (69, ⟨M_ab, R_ab, fun _ => true, g_ab⟩), (66, ⟨M_a3, R_a3, fun _ => true, g_a3⟩), (149, ⟨M_b3, R_b3, fun _ => true, g_b3⟩), (150, ⟨M_b8, R_b8, p_b8, g_b8⟩), (151, ⟨M_b4, R_b4, fun _ => true, g_b4⟩)]) (keepOf [(pt0, (⟨[(1, .asis), (3, .asis)], [(1, .asis)], []⟩ : Keep))]) nF
abbrev E_b9 := evFn (X_b9 g_au g_ab g_a3 g_b3 g_b8 p_b8 g_b4) Tryz.f81 R_b9 M_b9
def h0_b9 (x0 : Dm (.imm S_TstTest)) (h0 : Dn I) : St := mkS [(1, (AV.ptr 1 none [])), (3, (AV.val I h0))] [(1, (Ob.box S_TstTest (AV.val S_TstTest x0)))]
def r_b9 := rounds (X_b9 g_au g_ab g_a3 g_b3 g_b8 p_b8 g_b4) Tryz.f81 R_b9 M_b9
variable {g_au g_ab g_a3 g_b3 g_b8 p_b8 g_b4}
theorem ev_b9 (k : Nat) (x0 : Dm (.imm S_TstTest)) : E_b9 g_au g_ab g_a3 g_b3 g_b8 p_b8 g_b4 k (x0, ()) =
 (bif (bif (g_au (x0.1, ())).1 then false else true) then (some (false, ())) else (bif (bif (g_ab (x0.2.2.1, ())).1 then false else true) then (some (false, ())) else (bif (bif (g_a3 (x0.2.2.2.1, ((0 : Int), ((3 : Int), ())))).1 then false else true) then (some (false, ())) else (bif (decide ((g_b3 (x0.2.2.2.1, ())).1 < (List.length x0.2.2.2.2 : Int))) then (some (false, ())) else (r_b9 g_au g_ab g_a3 g_b3 g_b8 p_b8 g_b4 (x0, ()) k pt0 (h0_b9 x0 (0 : Int))))))) := by kernel_rfl
theorem rd0_b9 (k : Nat) (x0 : Dm (.imm S_TstTest)) (h0 : Dn I) : r_b9 g_au g_ab g_a3 g_b3 g_b8 p_b8 g_b4 (x0, ()) (k + 1) pt0 (h0_b9 x0 h0) =
 (bif (decide (h0 < (List.length x0.2.2.2.2 : Int))) then (bif (bif (decide ((0 : Int) <= h0)) then (decide (h0 < (List.length x0.2.2.2.2 : Int))) else false) then (bif (bif (g_ab ((rdL (e := S_DecDec) x0.2.2.2.2 h0), ())).1 then false else true) then (some (false, ())) else (r_b9 g_au g_ab g_a3 g_b3 g_b8 p_b8 g_b4 (x0, ()) k pt0 (h0_b9 x0 (w64 (h0 + (1 : Int)))))) else none) else (bif (decide (x0.2.1 = (0 : Int))) then (bif (Sh.beq S_DecDec x0.2.2.1 ((0 : Int), (0 : Int))) then (some ((decide (x0.2.2.2.1 = (0 : Int))), ())) else (some (false, ()))) else (bif (p_b8 (x0, ())) then (bif (decide (x0.2.1 = (g_b8 (x0, ())).1)) then (bif (decide (x0.2.2.2.1 = (0 : Int))) then (some (true, ())) else (some ((bif (g_b4 (x0.1, (x0.2.2.1, ()))).1 then false else true), ()))) else (some (false, ()))) else none))) := by kernel_rfl
theorem S_b9 (h_au : C_au (fun _ => true) g_au) (h_ab : C_ab (fun _ => true) g_ab) (h_a3 : C_a3 (fun _ => true) g_a3) (h_b3 : C_b3 (fun _ => true) g_b3) (h_b8 : C_b8 p_b8 g_b8) (h_b4 : C_b4 (fun _ => true) g_b4) {pre fn} (hev : Hq (E_b9 g_au g_ab g_a3 g_b3 g_b8 p_b8 g_b4) pre fn) : C_b9 pre fn := sound tysOk mixed (fn := Tryz.f81) rfl rfl rfl (.cons h_au (.cons h_ab (.cons h_a3 (.cons h_b3 (.cons h_b8 (.cons h_b4 .nil)))))) _ hev
end
abbrev M_ba : Lm := [.imm S_BatBatch]
abbrev R_ba : Lr := [(.imm, .bool)]
abbrev In_ba := Iq M_ba
abbrev Out_ba := Oq R_ba M_ba
abbrev C_ba := Cq 80 M_ba R_ba
section
variable (g_ak : In_ak -> Out_ak) (p_ak : In_ak -> Bool)
abbrev X_ba : Ctx := ctx tys 33 (conOf [(148, ⟨M_ak, R_ak, p_ak, g_ak⟩)]) (keepOf [(pt0, (⟨[(1, .asis), (4, .asis)], [(1, .asis)], []⟩ : Keep)), (pt1, (⟨[(1, .asis), (3, .asis)], [(1, .asis)], []⟩ : Keep))]) nF
abbrev E_ba := evFn (X_ba g_ak p_ak) Tryz.f80 R_ba M_ba
def h0_ba (x0 : Dm (.imm S_BatBatch)) (h0 : Dn I) : St := mkS [(1, (AV.ptr 1 none [])), (3, (AV.val I h0))] [(1, (Ob.box S_BatBatch (AV.val S_BatBatch x0)))]
def h1_ba (x0 : Dm (.imm S_BatBatch)) (h0 : Dn I) : St := mkS [(1, (AV.ptr 1 none [])), (4, (AV.val I h0))] [(1, (Ob.box S_BatBatch (AV.val S_BatBatch x0)))]
def r_ba := rounds (X_ba g_ak p_ak) Tryz.f80 R_ba M_ba
variable {g_ak p_ak}
theorem ev_ba (k : Nat) (x0 : Dm (.imm S_BatBatch)) : E_ba g_ak p_ak k (x0, ()) =
 (r_ba g_ak p_ak (x0, ()) k pt1 (h0_ba x0 (0 : Int))) := by kernel_rfl
theorem rd0_ba (k : Nat) (x0 : Dm (.imm S_BatBatch)) (h0 : Dn I) : r_ba g_ak p_ak (x0, ()) (k + 1) pt1 (h0_ba x0 h0) =
 (bif (decide (h0 < (List.length x0.2.2.1 : Int))) then (bif (bif (decide ((0 : Int) <= h0)) then (decide (h0 < (List.length x0.2.2.1 : Int))) else false) then (bif (bif (decide ((rdL (e := S_TstTest) x0.2.2.1 h0).2.1 = (3 : Int))) then false else true) then (some (false, ())) else (r_ba g_ak p_ak (x0, ()) k pt1 (h0_ba x0 (w64 (h0 + (1 : Int)))))) else none) else (r_ba g_ak p_ak (x0, ()) k pt0 (h1_ba x0 (0 : Int)))) := by kernel_rfl
theorem rd1_ba (k : Nat) (x0 : Dm (.imm S_BatBatch)) (h0 : Dn I) : r_ba g_ak p_ak (x0, ()) (k + 1) pt0 (h1_ba x0 h0) =
 (bif (decide (h0 < (List.length x0.2.2.2.2.2 : Int))) then (bif (bif (decide ((0 : Int) <= h0)) then (decide (h0 < (List.length x0.2.2.2.2.2 : Int))) else false) then (bif (rdL (e := Sh.bool) x0.2.2.2.2.2 h0) then (some (false, ())) else (r_ba g_ak p_ak (x0, ()) k pt0 (h1_ba x0 (w64 (h0 + (1 : Int)))))) else none) else (cl (p_ak (x0, ())) (g_ak (x0, ())) fun y0 => (some (y0.1, ())))) := by kernel_rfl
theorem S_ba (h_ak : C_ak p_ak g_ak) {pre fn} (hev : Hq (E_ba g_ak p_ak) pre fn) : C_ba pre fn := sound tysOk mixed (fn := Tryz.f80) rfl rfl rfl (.cons h_ak .nil) _ hev
end
abbrev M_bb : Lm := [.imm S_BatBatch]
abbrev R_bb : Lr := [(.imm, .bool)]
abbrev In_bb := Iq M_bb
abbrev Out_bb := Oq R_bb M_bb
abbrev C_bb := Cq 28 M_bb R_bb
section
variable (g_a3 : In_a3 -> Out_a3) (g_b9 : In_b9 -> Out_b9) (g_ba : In_ba -> Out_ba) (p_ba : In_ba -> Bool)
abbrev X_bb : Ctx := ctx tys 121 (conOf [(66, ⟨M_a3, R_a3, fun _ => true, g_a3⟩), (81, ⟨M_b9, R_b9, fun _ => true, g_b9⟩), (80, ⟨M_ba, R_ba, p_ba, g_ba⟩)]) (keepOf [(pt2, (⟨[(1, .asis), (4, .asis)], [(1, .asis)], []⟩ : Keep)), (pt0, (⟨[(1, .asis), (3, .asis)], [(1, .asis)], []⟩ : Keep))]) nF
abbrev E_bb := evFn (X_bb g_a3 g_b9 g_ba p_ba) Tryz.f28 R_bb M_bb
def h0_bb (x0 : Dm (.imm S_BatBatch)) (h0 : Dn I) : St := mkS [(1, (AV.ptr 1 none [])), (3, (AV.val I h0))] [(1, (Ob.box S_BatBatch (AV.val S_BatBatch x0)))]
def h1_bb (x0 : Dm (.imm S_BatBatch)) (h0 : Dn I) : St := mkS [(1, (AV.ptr 1 none [])), (4, (AV.val I h0))] [(1, (Ob.box S_BatBatch (AV.val S_BatBatch x0)))]
def r_bb := rounds (X_bb g_a3 g_b9 g_ba p_ba) Tryz.f28 R_bb M_bb
variable {g_a3 g_b9 g_ba p_ba}
theorem ev_bb (k : Nat) (x0 : Dm (.imm S_BatBatch)) : E_bb g_a3 g_b9 g_ba p_ba k (x0, ()) =
 (bif (bif (g_a3 (x0.1, ((0 : Int), ((5 : Int), ())))).1 then false else true) then (some (false, ())) else (bif (bif (g_a3 (x0.2.1, ((1 : Int), ((10000 : Int), ())))).1 then false else true) then (some (false, ())) else (bif (bif (g_a3 ((List.length x0.2.2.1 : Int), ((1 : Int), ((4 : Int), ())))).1 then false else true) then (some (false, ())) else (bif (bif (g_a3 (x0.2.2.2.1, ((1 : Int), ((4 : Int), ())))).1 then false else true) then (some (false, ())) else (bif (decide ((6 : Int) < (List.length x0.2.2.2.2.1 : Int))) then (some (false, ())) else (bif (decide ((3 : Int) < (List.length x0.2.2.2.2.2 : Int))) then (some (false, ())) else (r_bb g_a3 g_b9 g_ba p_ba (x0, ()) k pt0 (h0_bb x0 (0 : Int))))))))) := by kernel_rfl
theorem rd0_bb (k : Nat) (x0 : Dm (.imm S_BatBatch)) (h0 : Dn I) : r_bb g_a3 g_b9 g_ba p_ba (x0, ()) (k + 1) pt0 (h0_bb x0 h0) =
 (bif (decide (h0 < (List.length x0.2.2.1 : Int))) then (bif (bif (decide ((0 : Int) <= h0)) then (decide (h0 < (List.length x0.2.2.1 : Int))) else false) then (bif (bif (g_b9 ((rdL (e := S_TstTest) x0.2.2.1 h0), ())).1 then false else true) then (some (false, ())) else (bif (decide ((0 : Int) < h0)) then (bif (bif (decide ((0 : Int) <= (w64 (h0 - (1 : Int))))) then (decide ((w64 (h0 - (1 : Int))) < (List.length x0.2.2.1 : Int))) else false) then (bif (bif (decide ((0 : Int) <= h0)) then (decide (h0 < (List.length x0.2.2.1 : Int))) else false) then (bif (decide ((rdL (e := S_TstTest) x0.2.2.1 h0).1.1 <= (rdL (e := S_TstTest) x0.2.2.1 (w64 (h0 - (1 : Int)))).1.1)) then (some (false, ())) else (r_bb g_a3 g_b9 g_ba p_ba (x0, ()) k pt0 (h0_bb x0 (w64 (h0 + (1 : Int)))))) else none) else none) else (r_bb g_a3 g_b9 g_ba p_ba (x0, ()) k pt0 (h0_bb x0 (w64 (h0 + (1 : Int))))))) else none) else (r_bb g_a3 g_b9 g_ba p_ba (x0, ()) k pt2 (h1_bb x0 (0 : Int)))) := by kernel_rfl
theorem rd1_bb (k : Nat) (x0 : Dm (.imm S_BatBatch)) (h0 : Dn I) : r_bb g_a3 g_b9 g_ba p_ba (x0, ()) (k + 1) pt2 (h1_bb x0 h0) =
 (bif (decide (h0 < (List.length x0.2.2.2.2.1 : Int))) then (bif (bif (decide ((0 : Int) <= h0)) then (decide (h0 < (List.length x0.2.2.2.2.1 : Int))) else false) then (bif (bif (g_a3 ((rdL (e := S_BatSig) x0.2.2.2.2.1 h0).1, ((1 : Int), ((5 : Int), ())))).1 then false else true) then (some (false, ())) else (bif (bif (decide ((rdL (e := S_BatSig) x0.2.2.2.2.1 h0).2.1 = (2 : Int))) then false else true) then (bif (bif (decide ((rdL (e := S_BatSig) x0.2.2.2.2.1 h0).2.1 = (3 : Int))) then false else true) then (some (false, ())) else (bif (bif (g_a3 ((rdL (e := S_BatSig) x0.2.2.2.2.1 h0).2.2, ((0 : Int), ((999982 : Int), ())))).1 then false else true) then (some (false, ())) else (r_bb g_a3 g_b9 g_ba p_ba (x0, ()) k pt2 (h1_bb x0 (w64 (h0 + (1 : Int))))))) else (bif (bif (g_a3 ((rdL (e := S_BatSig) x0.2.2.2.2.1 h0).2.2, ((0 : Int), ((999982 : Int), ())))).1 then false else true) then (some (false, ())) else (r_bb g_a3 g_b9 g_ba p_ba (x0, ()) k pt2 (h1_bb x0 (w64 (h0 + (1 : Int)))))))) else none) else (bif (bif (decide (x0.2.2.2.1 = (2 : Int))) then false else true) then (bif (bif (decide (x0.2.2.2.1 = (4 : Int))) then false else true) then (some (true, ())) else (cl (p_ba (x0, ())) (g_ba (x0, ())) fun y0 => (some (y0.1, ())))) else (cl (p_ba (x0, ())) (g_ba (x0, ())) fun y1 => (some (y1.1, ()))))) := by kernel_rfl
theorem S_bb (h_a3 : C_a3 (fun _ => true) g_a3) (h_b9 : C_b9 (fun _ => true) g_b9) (h_ba : C_ba p_ba g_ba) {pre fn} (hev : Hq (E_bb g_a3 g_b9 g_ba p_ba) pre fn) : C_bb pre fn := sound tysOk mixed (fn := Tryz.f28) rfl rfl rfl (.cons h_a3 (.cons h_b9 (.cons h_ba .nil))) _ hev
end
abbrev M_bc : Lm := [.imm S_TstTest, .imm S_DecDec]
abbrev R_bc : Lr := [(.own, S_TstTest), (.imm, .bool)]
abbrev In_bc := Iq M_bc
abbrev Out_bc := Oq R_bc M_bc
abbrev C_bc := Cq 160 M_bc R_bc
section
variable (g_aq : In_aq -> Out_aq) (p_aq : In_aq -> Bool) (g_b9 : In_b9 -> Out_b9) (g_ab : In_ab -> Out_ab) (g_b8 : In_b8 -> Out_b8) (p_b8 : In_b8 -> Bool)
abbrev X_bc : Ctx := ctx tys 29 (conOf [(152, ⟨M_aq, R_aq, p_aq, g_aq⟩), (81, ⟨M_b9, R_b9, fun _ => true, g_b9⟩), (69, ⟨M_ab, R_ab, fun _ => true, g_ab⟩), (150, ⟨M_b8, R_b8, p_b8, g_b8⟩)]) (keepOf []) nF
abbrev E_bc := evFn (X_bc g_aq p_aq g_b9 g_ab g_b8 p_b8) Tryz.f160 R_bc M_bc
variable {g_aq p_aq g_b9 g_ab g_b8 p_b8}
theorem ev_bc (k : Nat) (x0 : Dm (.imm S_TstTest)) (x1 : Dm (.imm S_DecDec)) : E_bc g_aq p_aq g_b9 g_ab g_b8 p_b8 k (x0, x1, ()) =
 (cl (p_aq (x0, ())) (g_aq (x0, ())) fun y0 => (bif (bif (g_b9 (x0, ())).1 then false else true) then (some (y0.1, (false, ()))) else (bif (bif (g_ab (x1, ())).1 then false else true) then (some (y0.1, (false, ()))) else (bif (bif (decide (x0.2.1 = (0 : Int))) then false else true) then (some (y0.1, (false, ()))) else (cl (p_b8 ((y0.1.1, (y0.1.2.1, (x1, y0.1.2.2.2))), ())) (g_b8 ((y0.1.1, (y0.1.2.1, (x1, y0.1.2.2.2))), ())) fun y1 => (some ((y0.1.1, (y1.1, (x1, y0.1.2.2.2))), (true, ())))))))) := by kernel_rfl
theorem S_bc (h_aq : C_aq p_aq g_aq) (h_b9 : C_b9 (fun _ => true) g_b9) (h_ab : C_ab (fun _ => true) g_ab) (h_b8 : C_b8 p_b8 g_b8) {pre fn} (hev : Hq (E_bc g_aq p_aq g_b9 g_ab g_b8 p_b8) pre fn) : C_bc pre fn := sound tysOk mixed (fn := Tryz.f160) rfl rfl rfl (.cons h_aq (.cons h_b9 (.cons h_ab (.cons h_b8 .nil)))) _ hev
end
abbrev M_bd : Lm := [.imm S_TstTest, .imm I]
abbrev R_bd : Lr := [(.own, S_TstTest), (.imm, .bool)]
abbrev In_bd := Iq M_bd
abbrev Out_bd := Oq R_bd M_bd
abbrev C_bd := Cq 161 M_bd R_bd
section
variable (g_aq : In_aq -> Out_aq) (p_aq : In_aq -> Bool) (g_b9 : In_b9 -> Out_b9) (g_a3 : In_a3 -> Out_a3) (g_b8 : In_b8 -> Out_b8) (p_b8 : In_b8 -> Bool)
abbrev X_bd : Ctx := ctx tys 29 (conOf [(152, ⟨M_aq, R_aq, p_aq, g_aq⟩), (81, ⟨M_b9, R_b9, fun _ => true, g_b9⟩), (66, ⟨M_a3, R_a3, fun _ => true, g_a3⟩), (150, ⟨M_b8, R_b8, p_b8, g_b8⟩)]) (keepOf []) nF
abbrev E_bd := evFn (X_bd g_aq p_aq g_b9 g_a3 g_b8 p_b8) Tryz.f161 R_bd M_bd
variable {g_aq p_aq g_b9 g_a3 g_b8 p_b8}
theorem ev_bd (k : Nat) (x0 : Dm (.imm S_TstTest)) (x1 : Dm (.imm I)) : E_bd g_aq p_aq g_b9 g_a3 g_b8 p_b8 k (x0, x1, ()) =
 (cl (p_aq (x0, ())) (g_aq (x0, ())) fun y0 => (bif (bif (g_b9 (x0, ())).1 then false else true) then (some (y0.1, (false, ()))) else (bif (bif (decide (x0.2.1 = (1 : Int))) then false else true) then (some (y0.1, (false, ()))) else (bif (bif (g_a3 (x1, ((1 : Int), ((3 : Int), ())))).1 then false else true) then (some (y0.1, (false, ()))) else (cl (p_b8 ((y0.1.1, (y0.1.2.1, (y0.1.2.2.1, (x1, y0.1.2.2.2.2)))), ())) (g_b8 ((y0.1.1, (y0.1.2.1, (y0.1.2.2.1, (x1, y0.1.2.2.2.2)))), ())) fun y1 => (some ((y0.1.1, (y1.1, (y0.1.2.2.1, (x1, y0.1.2.2.2.2)))), (true, ())))))))) := by kernel_rfl
theorem S_bd (h_aq : C_aq p_aq g_aq) (h_b9 : C_b9 (fun _ => true) g_b9) (h_a3 : C_a3 (fun _ => true) g_a3) (h_b8 : C_b8 p_b8 g_b8) {pre fn} (hev : Hq (E_bd g_aq p_aq g_b9 g_a3 g_b8 p_b8) pre fn) : C_bd pre fn := sound tysOk mixed (fn := Tryz.f161) rfl rfl rfl (.cons h_aq (.cons h_b9 (.cons h_a3 (.cons h_b8 .nil)))) _ hev
end
abbrev M_be : Lm := [.imm S_TstTest, .imm S_DecDec]
abbrev R_be : Lr := [(.own, S_TstTest), (.imm, .bool)]
abbrev In_be := Iq M_be
abbrev Out_be := Oq R_be M_be
abbrev C_be := Cq 162 M_be R_be
section
variable (g_aq : In_aq -> Out_aq) (p_aq : In_aq -> Bool) (g_b9 : In_b9 -> Out_b9) (g_ab : In_ab -> Out_ab) (g_b8 : In_b8 -> Out_b8) (p_b8 : In_b8 -> Bool)
abbrev X_be : Ctx := ctx tys 33 (conOf [(152, ⟨M_aq, R_aq, p_aq, g_aq⟩), (81, ⟨M_b9, R_b9, fun _ => true, g_b9⟩), (69, ⟨M_ab, R_ab, fun _ => true, g_ab⟩), (150, ⟨M_b8, R_b8, p_b8, g_b8⟩)]) (keepOf []) nF
abbrev E_be := evFn (X_be g_aq p_aq g_b9 g_ab g_b8 p_b8) Tryz.f162 R_be M_be
variable {g_aq p_aq g_b9 g_ab g_b8 p_b8}
theorem ev_be (k : Nat) (x0 : Dm (.imm S_TstTest)) (x1 : Dm (.imm S_DecDec)) : E_be g_aq p_aq g_b9 g_ab g_b8 p_b8 k (x0, x1, ()) =
 (cl (p_aq (x0, ())) (g_aq (x0, ())) fun y0 => (bif (bif (g_b9 (x0, ())).1 then false else true) then (some (y0.1, (false, ()))) else (bif (bif (decide (x0.2.1 = (2 : Int))) then false else true) then (some (y0.1, (false, ()))) else (bif (bif (g_ab (x1, ())).1 then false else true) then (some (y0.1, (false, ()))) else (bif (fitL y0.1.2.2.2.2 [x1]) then (cl (p_b8 ((y0.1.1, (y0.1.2.1, (y0.1.2.2.1, (y0.1.2.2.2.1, (List.append y0.1.2.2.2.2 [x1]))))), ())) (g_b8 ((y0.1.1, (y0.1.2.1, (y0.1.2.2.1, (y0.1.2.2.2.1, (List.append y0.1.2.2.2.2 [x1]))))), ())) fun y1 => (some ((y0.1.1, (y1.1, (y0.1.2.2.1, (y0.1.2.2.2.1, (List.append y0.1.2.2.2.2 [x1]))))), (true, ())))) else none))))) := by kernel_rfl
theorem S_be (h_aq : C_aq p_aq g_aq) (h_b9 : C_b9 (fun _ => true) g_b9) (h_ab : C_ab (fun _ => true) g_ab) (h_b8 : C_b8 p_b8 g_b8) {pre fn} (hev : Hq (E_be g_aq p_aq g_b9 g_ab g_b8 p_b8) pre fn) : C_be pre fn := sound tysOk mixed (fn := Tryz.f162) rfl rfl rfl (.cons h_aq (.cons h_b9 (.cons h_ab (.cons h_b8 .nil)))) _ hev
end
abbrev M_bf : Lm := [.imm S_TstTest, .imm I, .imm S_DecDec, .imm I]
abbrev R_bf : Lr := [(.own, S_TstTest), (.imm, .bool)]
abbrev In_bf := Iq M_bf
abbrev Out_bf := Oq R_bf M_bf
abbrev C_bf := Cq 98 M_bf R_bf
section
variable (g_bc : In_bc -> Out_bc) (p_bc : In_bc -> Bool) (g_bd : In_bd -> Out_bd) (p_bd : In_bd -> Bool) (g_be : In_be -> Out_be) (p_be : In_be -> Bool) (g_aq : In_aq -> Out_aq) (p_aq : In_aq -> Bool)
abbrev X_bf : Ctx := ctx tys 34 (conOf [(160, ⟨M_bc, R_bc, p_bc, g_bc⟩), (161, ⟨M_bd, R_bd, p_bd, g_bd⟩), (162, ⟨M_be, R_be, p_be, g_be⟩), (152, ⟨M_aq, R_aq, p_aq, g_aq⟩)]) (keepOf []) nF
abbrev E_bf := evFn (X_bf g_bc p_bc g_bd p_bd g_be p_be g_aq p_aq) Tryz.f98 R_bf M_bf
variable {g_bc p_bc g_bd p_bd g_be p_be g_aq p_aq}
theorem ev_bf (k : Nat) (x0 : Dm (.imm S_TstTest)) (x1 : Dm (.imm I)) (x2 : Dm (.imm S_DecDec)) (x3 : Dm (.imm I)) : E_bf g_bc p_bc g_bd p_bd g_be p_be g_aq p_aq k (x0, x1, x2, x3, ()) =
 (bif (decide (x1 = (1 : Int))) then (cl (p_bc (x0, (x2, ()))) (g_bc (x0, (x2, ()))) fun y0 => (some (y0.1, (y0.2.1, ())))) else (bif (decide (x1 = (2 : Int))) then (cl (p_bd (x0, (x3, ()))) (g_bd (x0, (x3, ()))) fun y1 => (some (y1.1, (y1.2.1, ())))) else (bif (decide (x1 = (3 : Int))) then (cl (p_be (x0, (x2, ()))) (g_be (x0, (x2, ()))) fun y2 => (some (y2.1, (y2.2.1, ())))) else (cl (p_aq (x0, ())) (g_aq (x0, ())) fun y3 => (some (y3.1, (false, ()))))))) := by kernel_rfl
theorem S_bf (h_bc : C_bc p_bc g_bc) (h_bd : C_bd p_bd g_bd) (h_be : C_be p_be g_be) (h_aq : C_aq p_aq g_aq) {pre fn} (hev : Hq (E_bf g_bc p_bc g_bd p_bd g_be p_be g_aq p_aq) pre fn) : C_bf pre fn := sound tysOk mixed (fn := Tryz.f98) rfl rfl rfl (.cons h_bc (.cons h_bd (.cons h_be (.cons h_aq .nil)))) _ hev
end
abbrev M_bg : Lm := [.imm S_BatBatch, .imm I, .imm I, .imm S_DecDec, .imm I]
abbrev R_bg : Lr := [(.own, S_BatBatch), (.imm, .bool)]
abbrev In_bg := Iq M_bg
abbrev Out_bg := Oq R_bg M_bg
abbrev C_bg := Cq 40 M_bg R_bg
section
variable (g_ar : In_ar -> Out_ar) (p_ar : In_ar -> Bool) (g_bb : In_bb -> Out_bb) (p_bb : In_bb -> Bool) (g_bf : In_bf -> Out_bf) (p_bf : In_bf -> Bool)
abbrev X_bg : Ctx := ctx tys 63 (conOf [(86, ⟨M_ar, R_ar, p_ar, g_ar⟩), (28, ⟨M_bb, R_bb, p_bb, g_bb⟩), (98, ⟨M_bf, R_bf, p_bf, g_bf⟩)]) (keepOf [(pt2, (⟨[(1, .asis), (2, .asis), (4, .asis), (5, .asis), (8, .asis), (10, .asis), (12, .asis), (13, .asis)], [(5, .asis), (8, .asis), (10, (.pair .asis (.pair .asis (.pair .own (.pair .asis (.pair .own .own)))))), (12, (.pair .asis (.pair .asis (.pair .own (.pair .asis (.pair .own .own))))))], []⟩ : Keep))]) nF
abbrev E_bg := evFn (X_bg g_ar p_ar g_bb p_bb g_bf p_bf) Tryz.f40 R_bg M_bg
def h0_bg (x0 : Dm (.imm S_BatBatch)) (x1 : Dm (.imm I)) (x2 : Dm (.imm I)) (x3 : Dm (.imm S_DecDec)) (x4 : Dm (.imm I)) (h0 : Dn I) (h1 : Dn I) (h2 : Dn I) (h3 : Dn I) (h4 : (List (Dn S_TstTest))) (h5 : (List (Dn S_BatSig))) (h6 : (List (Dn Sh.bool))) (h7 : Dn I) (h8 : Dn I) (h9 : Dn I) (h10 : (List (Dn S_TstTest))) (h11 : (List (Dn S_BatSig))) (h12 : (List (Dn Sh.bool))) : St := mkS [(1, (AV.val I x1)), (2, (AV.val I x2)), (4, (AV.val I x4)), (5, (AV.ptr 5 none [])), (8, (AV.ptr 8 none [])), (10, (AV.ptr 10 none [])), (12, (AV.ptr 12 none [])), (13, (AV.val I h0))] [(5, (Ob.box S_BatBatch (AV.val S_BatBatch x0))), (8, (Ob.box S_DecDec (AV.val S_DecDec x3))), (10, (Ob.box S_BatBatch (AV.pair (AV.val I h1) (AV.pair (AV.val I h2) (AV.pair (AV.sref 2510 none []) (AV.pair (AV.val I h3) (AV.pair (AV.sref 12510 none []) (AV.sref 22510 none [])))))))), (2510, (Ob.arr 56 S_TstTest h4)), (12510, (Ob.arr 58 S_BatSig h5)), (22510, (Ob.arr 4 Sh.bool h6)), (12, (Ob.box S_BatBatch (AV.pair (AV.val I h7) (AV.pair (AV.val I h8) (AV.pair (AV.sref 2512 none []) (AV.pair (AV.val I h9) (AV.pair (AV.sref 12512 none []) (AV.sref 22512 none [])))))))), (2512, (Ob.arr 56 S_TstTest h10)), (12512, (Ob.arr 58 S_BatSig h11)), (22512, (Ob.arr 4 Sh.bool h12))]
def r_bg := rounds (X_bg g_ar p_ar g_bb p_bb g_bf p_bf) Tryz.f40 R_bg M_bg
variable {g_ar p_ar g_bb p_bb g_bf p_bf}
theorem ev_bg (k : Nat) (x0 : Dm (.imm S_BatBatch)) (x1 : Dm (.imm I)) (x2 : Dm (.imm I)) (x3 : Dm (.imm S_DecDec)) (x4 : Dm (.imm I)) : E_bg g_ar p_ar g_bb p_bb g_bf p_bf k (x0, x1, x2, x3, x4, ()) =
 (cl (p_ar (x0, ())) (g_ar (x0, ())) fun y0 => (cl (p_bb (x0, ())) (g_bb (x0, ())) fun y1 => (bif (bif y1.1 then false else true) then (some (y0.1, (false, ()))) else (bif (bif (decide (x0.2.2.2.1 = (1 : Int))) then false else true) then (some (y0.1, (false, ()))) else (r_bg g_ar p_ar g_bb p_bb g_bf p_bf (x0, x1, x2, x3, x4, ()) k pt2 (h0_bg x0 x1 x2 x3 x4 (0 : Int) (0 : Int) (0 : Int) (0 : Int) [] [] [] (y0.1.1) (y0.1.2.1) (y0.1.2.2.2.1) (y0.1.2.2.1) (y0.1.2.2.2.2.1) (y0.1.2.2.2.2.2))))))) := by kernel_rfl
theorem rd0_bg (k : Nat) (x0 : Dm (.imm S_BatBatch)) (x1 : Dm (.imm I)) (x2 : Dm (.imm I)) (x3 : Dm (.imm S_DecDec)) (x4 : Dm (.imm I)) (h0 : Dn I) (h1 : Dn I) (h2 : Dn I) (h3 : Dn I) (h4 : (List (Dn S_TstTest))) (h5 : (List (Dn S_BatSig))) (h6 : (List (Dn Sh.bool))) (h7 : Dn I) (h8 : Dn I) (h9 : Dn I) (h10 : (List (Dn S_TstTest))) (h11 : (List (Dn S_BatSig))) (h12 : (List (Dn Sh.bool))) : r_bg g_ar p_ar g_bb p_bb g_bf p_bf (x0, x1, x2, x3, x4, ()) (k + 1) pt2 (h0_bg x0 x1 x2 x3 x4 h0 h1 h2 h3 h4 h5 h6 h7 h8 h9 h10 h11 h12) =
 (bif (decide (h0 < (List.length x0.2.2.1 : Int))) then (bif (bif (decide ((0 : Int) <= h0)) then (decide (h0 < (List.length x0.2.2.1 : Int))) else false) then (bif (decide ((rdL (e := S_TstTest) x0.2.2.1 h0).1.1 = x1)) then (bif (bif (decide ((0 : Int) <= h0)) then (decide (h0 < (List.length x0.2.2.1 : Int))) else false) then (cl (p_bf ((rdL (e := S_TstTest) x0.2.2.1 h0), (x2, (x3, (x4, ()))))) (g_bf ((rdL (e := S_TstTest) x0.2.2.1 h0), (x2, (x3, (x4, ()))))) fun y0 => (bif (bif (decide ((0 : Int) <= h0)) then (decide (h0 < (List.length h10 : Int))) else false) then (some ((h7, (h8, ((List.set h10 (Int.toNat h0) y0.1), (h9, (h11, h12))))), (y0.2.1, ()))) else none)) else none) else (r_bg g_ar p_ar g_bb p_bb g_bf p_bf (x0, x1, x2, x3, x4, ()) k pt2 (h0_bg x0 x1 x2 x3 x4 (w64 (h0 + (1 : Int))) h1 h2 h3 h4 h5 h6 h7 h8 h9 h10 h11 h12))) else none) else (some ((h7, (h8, (h10, (h9, (h11, h12))))), (false, ())))) := by kernel_rfl
theorem S_bg (h_ar : C_ar p_ar g_ar) (h_bb : C_bb p_bb g_bb) (h_bf : C_bf p_bf g_bf) {pre fn} (hev : Hq (E_bg g_ar p_ar g_bb p_bb g_bf p_bf) pre fn) : C_bg pre fn := sound tysOk mixed (fn := Tryz.f40) rfl rfl rfl (.cons h_ar (.cons h_bb (.cons h_bf .nil))) _ hev
end
abbrev M_bh : Lm := [.imm S_BatBatch, .imm I, .imm .bool]
abbrev R_bh : Lr := [(.own, S_BatBatch), (.imm, .bool)]
abbrev In_bh := Iq M_bh
abbrev Out_bh := Oq R_bh M_bh
abbrev C_bh := Cq 37 M_bh R_bh
section
variable (g_ar : In_ar -> Out_ar) (p_ar : In_ar -> Bool) (g_bb : In_bb -> Out_bb) (p_bb : In_bb -> Bool) (g_a3 : In_a3 -> Out_a3)
abbrev X_bh : Ctx := ctx tys 60 (conOf [(86, ⟨M_ar, R_ar, p_ar, g_ar⟩), (28, ⟨M_bb, R_bb, p_bb, g_bb⟩), (66, ⟨M_a3, R_a3, fun _ => true, g_a3⟩)]) (keepOf []) nF
abbrev E_bh := evFn (X_bh g_ar p_ar g_bb p_bb g_a3) Tryz.f37 R_bh M_bh
variable {g_ar p_ar g_bb p_bb g_a3}
theorem ev_bh (k : Nat) (x0 : Dm (.imm S_BatBatch)) (x1 : Dm (.imm I)) (x2 : Dm (.imm .bool)) : E_bh g_ar p_ar g_bb p_bb g_a3 k (x0, x1, x2, ()) =
 (cl (p_ar (x0, ())) (g_ar (x0, ())) fun y0 => (cl (p_bb (x0, ())) (g_bb (x0, ())) fun y1 => (bif (bif y1.1 then false else true) then (some (y0.1, (false, ()))) else (bif (bif (decide (x0.2.2.2.1 = (1 : Int))) then false else true) then (some (y0.1, (false, ()))) else (bif x2 then (bif (bif (decide (x1 = (List.length x0.2.2.2.2.2 : Int))) then false else true) then (some (y0.1, (false, ()))) else (bif (decide ((List.length x0.2.2.2.2.2 : Int) = (3 : Int))) then (some (y0.1, (false, ()))) else (bif (fitL y0.1.2.2.2.2.2 [true]) then (some ((y0.1.1, (y0.1.2.1, (y0.1.2.2.1, (y0.1.2.2.2.1, (y0.1.2.2.2.2.1, (List.append y0.1.2.2.2.2.2 [true])))))), (true, ()))) else none))) else (bif (bif (g_a3 (x1, ((0 : Int), ((w64 ((List.length x0.2.2.2.2.2 : Int) - (1 : Int))), ())))).1 then false else true) then (some (y0.1, (false, ()))) else (bif (bif (decide ((0 : Int) <= x1)) then (decide (x1 < (List.length x0.2.2.2.2.2 : Int))) else false) then (bif (bif (rdL (e := Sh.bool) x0.2.2.2.2.2 x1) then false else true) then (some (y0.1, (false, ()))) else (bif (bif (decide ((0 : Int) <= x1)) then (decide (x1 < (List.length y0.1.2.2.2.2.2 : Int))) else false) then (some ((y0.1.1, (y0.1.2.1, (y0.1.2.2.1, (y0.1.2.2.2.1, (y0.1.2.2.2.2.1, (List.set y0.1.2.2.2.2.2 (Int.toNat x1) false)))))), (true, ()))) else none)) else none))))))) := by kernel_rfl
theorem S_bh (h_ar : C_ar p_ar g_ar) (h_bb : C_bb p_bb g_bb) (h_a3 : C_a3 (fun _ => true) g_a3) {pre fn} (hev : Hq (E_bh g_ar p_ar g_bb p_bb g_a3) pre fn) : C_bh pre fn := sound tysOk mixed (fn := Tryz.f37) rfl rfl rfl (.cons h_ar (.cons h_bb (.cons h_a3 .nil))) _ hev
end
abbrev M_bi : Lm := [.imm S_BatBatch, .imm I, .imm I]
abbrev R_bi : Lr := [(.own, S_BatBatch), (.imm, .bool)]
abbrev In_bi := Iq M_bi
abbrev Out_bi := Oq R_bi M_bi
abbrev C_bi := Cq 32 M_bi R_bi
section
variable (g_ar : In_ar -> Out_ar) (p_ar : In_ar -> Bool) (g_bb : In_bb -> Out_bb) (p_bb : In_bb -> Bool) (g_a3 : In_a3 -> Out_a3) (g_ai : In_ai -> Out_ai) (p_ai : In_ai -> Bool)
abbrev X_bi : Ctx := ctx tys 50 (conOf [(86, ⟨M_ar, R_ar, p_ar, g_ar⟩), (28, ⟨M_bb, R_bb, p_bb, g_bb⟩), (66, ⟨M_a3, R_a3, fun _ => true, g_a3⟩), (87, ⟨M_ai, R_ai, p_ai, g_ai⟩)]) (keepOf []) nF
abbrev E_bi := evFn (X_bi g_ar p_ar g_bb p_bb g_a3 g_ai p_ai) Tryz.f32 R_bi M_bi
variable {g_ar p_ar g_bb p_bb g_a3 g_ai p_ai}
theorem ev_bi (k : Nat) (x0 : Dm (.imm S_BatBatch)) (x1 : Dm (.imm I)) (x2 : Dm (.imm I)) : E_bi g_ar p_ar g_bb p_bb g_a3 g_ai p_ai k (x0, x1, x2, ()) =
 (cl (p_ar (x0, ())) (g_ar (x0, ())) fun y0 => (cl (p_bb (x0, ())) (g_bb (x0, ())) fun y1 => (bif (bif y1.1 then false else true) then (some (y0.1, (false, ()))) else (bif (bif (decide (x0.2.2.2.1 = (1 : Int))) then false else true) then (some (y0.1, (false, ()))) else (bif (bif (g_a3 (x1, ((1 : Int), ((5 : Int), ())))).1 then false else true) then (some (y0.1, (false, ()))) else (bif (bif (decide (x2 = (2 : Int))) then false else true) then (bif (bif (decide (x2 = (3 : Int))) then false else true) then (some (y0.1, (false, ()))) else (bif (decide ((List.length x0.2.2.2.2.1 : Int) = (6 : Int))) then (some (y0.1, (false, ()))) else (cl (p_ai (x0, ())) (g_ai (x0, ())) fun y2 => (bif (fitL y0.1.2.2.2.2.1 [(x1, (x2, y2.1))]) then (some ((y0.1.1, (y0.1.2.1, (y0.1.2.2.1, (y0.1.2.2.2.1, ((List.append y0.1.2.2.2.2.1 [(x1, (x2, y2.1))]), y0.1.2.2.2.2.2))))), (true, ()))) else none)))) else (bif (decide ((List.length x0.2.2.2.2.1 : Int) = (6 : Int))) then (some (y0.1, (false, ()))) else (cl (p_ai (x0, ())) (g_ai (x0, ())) fun y3 => (bif (fitL y0.1.2.2.2.2.1 [(x1, (x2, y3.1))]) then (some ((y0.1.1, (y0.1.2.1, (y0.1.2.2.1, (y0.1.2.2.2.1, ((List.append y0.1.2.2.2.2.1 [(x1, (x2, y3.1))]), y0.1.2.2.2.2.2))))), (true, ()))) else none))))))))) := by kernel_rfl
theorem S_bi (h_ar : C_ar p_ar g_ar) (h_bb : C_bb p_bb g_bb) (h_a3 : C_a3 (fun _ => true) g_a3) (h_ai : C_ai p_ai g_ai) {pre fn} (hev : Hq (E_bi g_ar p_ar g_bb p_bb g_a3 g_ai p_ai) pre fn) : C_bi pre fn := sound tysOk mixed (fn := Tryz.f32) rfl rfl rfl (.cons h_ar (.cons h_bb (.cons h_a3 (.cons h_ai .nil)))) _ hev
end
abbrev M_bj : Lm := [.imm S_BatBatch, .imm I]
abbrev R_bj : Lr := [(.own, S_BatBatch), (.imm, .bool)]
abbrev In_bj := Iq M_bj
abbrev Out_bj := Oq R_bj M_bj
abbrev C_bj := Cq 184 M_bj R_bj
section
variable (g_ar : In_ar -> Out_ar) (p_ar : In_ar -> Bool) (g_bb : In_bb -> Out_bb) (p_bb : In_bb -> Bool) (g_ba : In_ba -> Out_ba) (p_ba : In_ba -> Bool)
abbrev X_bj : Ctx := ctx tys 55 (conOf [(86, ⟨M_ar, R_ar, p_ar, g_ar⟩), (28, ⟨M_bb, R_bb, p_bb, g_bb⟩), (80, ⟨M_ba, R_ba, p_ba, g_ba⟩)]) (keepOf []) nF
abbrev E_bj := evFn (X_bj g_ar p_ar g_bb p_bb g_ba p_ba) Tryz.f184 R_bj M_bj
variable {g_ar p_ar g_bb p_bb g_ba p_ba}
theorem ev_bj (k : Nat) (x0 : Dm (.imm S_BatBatch)) (x1 : Dm (.imm I)) : E_bj g_ar p_ar g_bb p_bb g_ba p_ba k (x0, x1, ()) =
 (cl (p_ar (x0, ())) (g_ar (x0, ())) fun y0 => (cl (p_bb (x0, ())) (g_bb (x0, ())) fun y1 => (bif (bif y1.1 then false else true) then (some (y0.1, (false, ()))) else (bif (decide (x1 = (2 : Int))) then (bif (decide (x0.2.2.2.1 = (1 : Int))) then (cl (p_ba (x0, ())) (g_ba (x0, ())) fun y2 => (bif (decide (x1 = (3 : Int))) then (bif (decide (x1 = (4 : Int))) then (bif (bif y2.1 then false else true) then (bif (bif (decide (x0.2.2.2.1 = (1 : Int))) then false else true) then (bif (bif (decide (x0.2.2.2.1 = (2 : Int))) then false else true) then (some (y0.1, (false, ()))) else (some ((y0.1.1, (y0.1.2.1, (y0.1.2.2.1, (x1, y0.1.2.2.2.2)))), (true, ())))) else (some ((y0.1.1, (y0.1.2.1, (y0.1.2.2.1, (x1, y0.1.2.2.2.2)))), (true, ())))) else (some ((y0.1.1, (y0.1.2.1, (y0.1.2.2.1, (x1, y0.1.2.2.2.2)))), (true, ())))) else (bif (bif y2.1 then false else true) then (bif (bif (decide (x0.2.2.2.1 = (1 : Int))) then false else true) then (some (y0.1, (false, ()))) else (some ((y0.1.1, (y0.1.2.1, (y0.1.2.2.1, (x1, y0.1.2.2.2.2)))), (true, ())))) else (some ((y0.1.1, (y0.1.2.1, (y0.1.2.2.1, (x1, y0.1.2.2.2.2)))), (true, ()))))) else (bif (decide (x1 = (4 : Int))) then (bif (bif y2.1 then false else true) then (bif (bif (decide (x0.2.2.2.1 = (2 : Int))) then false else true) then (some (y0.1, (false, ()))) else (some ((y0.1.1, (y0.1.2.1, (y0.1.2.2.1, (x1, y0.1.2.2.2.2)))), (true, ())))) else (some ((y0.1.1, (y0.1.2.1, (y0.1.2.2.1, (x1, y0.1.2.2.2.2)))), (true, ())))) else (bif (bif y2.1 then false else true) then (some (y0.1, (false, ()))) else (some ((y0.1.1, (y0.1.2.1, (y0.1.2.2.1, (x1, y0.1.2.2.2.2)))), (true, ()))))))) else (bif (decide (x1 = (3 : Int))) then (bif (decide (x1 = (4 : Int))) then (bif (bif (decide (x0.2.2.2.1 = (1 : Int))) then false else true) then (bif (bif (decide (x0.2.2.2.1 = (2 : Int))) then false else true) then (some (y0.1, (false, ()))) else (some ((y0.1.1, (y0.1.2.1, (y0.1.2.2.1, (x1, y0.1.2.2.2.2)))), (true, ())))) else (some ((y0.1.1, (y0.1.2.1, (y0.1.2.2.1, (x1, y0.1.2.2.2.2)))), (true, ())))) else (bif (bif (decide (x0.2.2.2.1 = (1 : Int))) then false else true) then (some (y0.1, (false, ()))) else (some ((y0.1.1, (y0.1.2.1, (y0.1.2.2.1, (x1, y0.1.2.2.2.2)))), (true, ()))))) else (bif (decide (x1 = (4 : Int))) then (bif (bif (decide (x0.2.2.2.1 = (2 : Int))) then false else true) then (some (y0.1, (false, ()))) else (some ((y0.1.1, (y0.1.2.1, (y0.1.2.2.1, (x1, y0.1.2.2.2.2)))), (true, ())))) else (some (y0.1, (false, ())))))) else (bif (decide (x1 = (3 : Int))) then (bif (decide (x1 = (4 : Int))) then (bif (bif (decide (x0.2.2.2.1 = (1 : Int))) then false else true) then (bif (bif (decide (x0.2.2.2.1 = (2 : Int))) then false else true) then (some (y0.1, (false, ()))) else (some ((y0.1.1, (y0.1.2.1, (y0.1.2.2.1, (x1, y0.1.2.2.2.2)))), (true, ())))) else (some ((y0.1.1, (y0.1.2.1, (y0.1.2.2.1, (x1, y0.1.2.2.2.2)))), (true, ())))) else (bif (bif (decide (x0.2.2.2.1 = (1 : Int))) then false else true) then (some (y0.1, (false, ()))) else (some ((y0.1.1, (y0.1.2.1, (y0.1.2.2.1, (x1, y0.1.2.2.2.2)))), (true, ()))))) else (bif (decide (x1 = (4 : Int))) then (bif (bif (decide (x0.2.2.2.1 = (2 : Int))) then false else true) then (some (y0.1, (false, ()))) else (some ((y0.1.1, (y0.1.2.1, (y0.1.2.2.1, (x1, y0.1.2.2.2.2)))), (true, ())))) else (some (y0.1, (false, ()))))))))) := by kernel_rfl
theorem S_bj (h_ar : C_ar p_ar g_ar) (h_bb : C_bb p_bb g_bb) (h_ba : C_ba p_ba g_ba) {pre fn} (hev : Hq (E_bj g_ar p_ar g_bb p_bb g_ba p_ba) pre fn) : C_bj pre fn := sound tysOk mixed (fn := Tryz.f184) rfl rfl rfl (.cons h_ar (.cons h_bb (.cons h_ba .nil))) _ hev
end
abbrev M_bk : Lm := [.imm S_BatBatch, .imm S_ReqReq, .imm I]
abbrev R_bk : Lr := [(.own, S_BatBatch), (.imm, .bool)]
abbrev In_bk := Iq M_bk
abbrev Out_bk := Oq R_bk M_bk
abbrev C_bk := Cq 135 M_bk R_bk
section
variable (g_bg : In_bg -> Out_bg) (p_bg : In_bg -> Bool) (g_bh : In_bh -> Out_bh) (p_bh : In_bh -> Bool) (g_bi : In_bi -> Out_bi) (p_bi : In_bi -> Bool) (g_bj : In_bj -> Out_bj) (p_bj : In_bj -> Bool)
abbrev X_bk : Ctx := ctx tys 83 (conOf [(40, ⟨M_bg, R_bg, p_bg, g_bg⟩), (37, ⟨M_bh, R_bh, p_bh, g_bh⟩), (32, ⟨M_bi, R_bi, p_bi, g_bi⟩), (184, ⟨M_bj, R_bj, p_bj, g_bj⟩)]) (keepOf []) nF
abbrev E_bk := evFn (X_bk g_bg p_bg g_bh p_bh g_bi p_bi g_bj p_bj) Tryz.f135 R_bk M_bk
variable {g_bg p_bg g_bh p_bh g_bi p_bi g_bj p_bj}
theorem ev_bk (k : Nat) (x0 : Dm (.imm S_BatBatch)) (x1 : Dm (.imm S_ReqReq)) (x2 : Dm (.imm I)) : E_bk g_bg p_bg g_bh p_bh g_bi p_bi g_bj p_bj k (x0, x1, x2, ()) =
 (bif (decide (x1.2.1 = (4 : Int))) then (cl (p_bg (x0, (x1.2.2.2.1, ((1 : Int), (x1.2.2.2.2.2.1, ((0 : Int), ())))))) (g_bg (x0, (x1.2.2.2.1, ((1 : Int), (x1.2.2.2.2.2.1, ((0 : Int), ())))))) fun y0 => (some (y0.1, (y0.2.1, ())))) else (bif (decide (x1.2.1 = (5 : Int))) then (cl (p_bg (x0, (x1.2.2.2.1, ((2 : Int), (((0 : Int), (0 : Int)), (x1.2.2.2.2.1, ())))))) (g_bg (x0, (x1.2.2.2.1, ((2 : Int), (((0 : Int), (0 : Int)), (x1.2.2.2.2.1, ())))))) fun y1 => (some (y1.1, (y1.2.1, ())))) else (bif (decide (x1.2.1 = (6 : Int))) then (cl (p_bg (x0, (x1.2.2.2.1, ((3 : Int), (x1.2.2.2.2.2.1, ((0 : Int), ())))))) (g_bg (x0, (x1.2.2.2.1, ((3 : Int), (x1.2.2.2.2.2.1, ((0 : Int), ())))))) fun y2 => (some (y2.1, (y2.2.1, ())))) else (bif (decide (x1.2.1 = (7 : Int))) then (cl (p_bh (x0, ((List.length x0.2.2.2.2.2 : Int), (true, ())))) (g_bh (x0, ((List.length x0.2.2.2.2.2 : Int), (true, ())))) fun y3 => (some (y3.1, (y3.2.1, ())))) else (bif (decide (x1.2.1 = (8 : Int))) then (cl (p_bh (x0, (x1.2.2.2.2.1, (false, ())))) (g_bh (x0, (x1.2.2.2.2.1, (false, ())))) fun y4 => (some (y4.1, (y4.2.1, ())))) else (bif (decide (x1.2.1 = (9 : Int))) then (cl (p_bi (x0, (x1.1, (x2, ())))) (g_bi (x0, (x1.1, (x2, ())))) fun y5 => (some (y5.1, (y5.2.1, ())))) else (bif (decide (x1.2.1 = (10 : Int))) then (cl (p_bj (x0, ((2 : Int), ()))) (g_bj (x0, ((2 : Int), ()))) fun y6 => (some (y6.1, (y6.2.1, ())))) else (bif (decide (x1.2.1 = (11 : Int))) then (cl (p_bj (x0, ((3 : Int), ()))) (g_bj (x0, ((3 : Int), ()))) fun y7 => (some (y7.1, (y7.2.1, ())))) else (cl (p_bj (x0, ((4 : Int), ()))) (g_bj (x0, ((4 : Int), ()))) fun y8 => (some (y8.1, (y8.2.1, ())))))))))))) := by kernel_rfl
theorem S_bk (h_bg : C_bg p_bg g_bg) (h_bh : C_bh p_bh g_bh) (h_bi : C_bi p_bi g_bi) (h_bj : C_bj p_bj g_bj) {pre fn} (hev : Hq (E_bk g_bg p_bg g_bh p_bh g_bi p_bi g_bj p_bj) pre fn) : C_bk pre fn := sound tysOk mixed (fn := Tryz.f135) rfl rfl rfl (.cons h_bg (.cons h_bh (.cons h_bi (.cons h_bj .nil)))) _ hev
end
abbrev M_bl : Lm := [.own S_HouHouse, .imm S_ReqReq]
abbrev R_bl : Lr := [(.own, S_HouHouse), (.imm, I)]
abbrev In_bl := Iq M_bl
abbrev Out_bl := Oq R_bl M_bl
abbrev C_bl := Cq 62 M_bl R_bl
section
variable (g_am : In_am -> Out_am) (g_az : In_az -> Out_az) (p_az : In_az -> Bool) (g_b2 : In_b2 -> Out_b2) (p_b2 : In_b2 -> Bool) (g_bk : In_bk -> Out_bk) (p_bk : In_bk -> Bool)
abbrev X_bl : Ctx := ctx tys 80 (conOf [(132, ⟨M_am, R_am, fun _ => true, g_am⟩), (133, ⟨M_az, R_az, p_az, g_az⟩), (134, ⟨M_b2, R_b2, p_b2, g_b2⟩), (135, ⟨M_bk, R_bk, p_bk, g_bk⟩)]) (keepOf []) nF
abbrev E_bl := evFn (X_bl g_am g_az p_az g_b2 p_b2 g_bk p_bk) Tryz.f62 R_bl M_bl
variable {g_am g_az p_az g_b2 p_b2 g_bk p_bk}
theorem ev_bl (k : Nat) (x0 : Dm (.own S_HouHouse)) (x1 : Dm (.imm S_ReqReq)) : E_bl g_am g_az p_az g_b2 p_b2 g_bk p_bk k (x0, x1, ()) =
 (lt (w64 (x1.1 - (1 : Int))) fun s0 => (lt (rdL (e := I) x0.1 s0) fun s1 => (bif (decide ((List.length x0.1 : Int) < x1.1)) then (some (x0, ((2 : Int), ()))) else (bif (bif (decide ((0 : Int) <= s0)) then (decide (s0 < (List.length x0.1 : Int))) else false) then (bif (bif (g_am (s1, (x1.2.1, ()))).1 then false else true) then (some (x0, ((2 : Int), ()))) else (bif (decide (x1.2.1 = (1 : Int))) then (cl (p_az (x0, (x1, ()))) (g_az (x0, (x1, ()))) fun y0 => (some (y0.1, (y0.2.1, ())))) else (bif (decide (x1.2.1 = (2 : Int))) then (cl (p_az (x0, (x1, ()))) (g_az (x0, (x1, ()))) fun y1 => (some (y1.1, (y1.2.1, ())))) else (bif (decide (x1.2.1 = (3 : Int))) then (cl (p_b2 (x0, (x1, ()))) (g_b2 (x0, (x1, ()))) fun y2 => (some (y2.1, (y2.2.1, ())))) else (bif (decide ((List.length x0.2.2 : Int) <= x1.2.2.1)) then (some (x0, ((3 : Int), ()))) else (bif (bif (decide ((0 : Int) <= x1.2.2.1)) then (decide (x1.2.2.1 < (List.length x0.2.2 : Int))) else false) then (bif (bif (decide ((0 : Int) <= s0)) then (decide (s0 < (List.length x0.1 : Int))) else false) then (cl (p_bk ((rdL (e := S_BatBatch) x0.2.2 x1.2.2.1), (x1, (s1, ())))) (g_bk ((rdL (e := S_BatBatch) x0.2.2 x1.2.2.1), (x1, (s1, ())))) fun y3 => (bif (bif y3.2.1 then false else true) then (some (x0, ((5 : Int), ()))) else (bif (bif (decide ((0 : Int) <= x1.2.2.1)) then (decide (x1.2.2.1 < (List.length x0.2.2 : Int))) else false) then (some ((x0.1, (x0.2.1, (List.set x0.2.2 (Int.toNat x1.2.2.1) y3.1))), ((1 : Int), ()))) else none))) else none) else none)))))) else none)))) := by kernel_rfl
theorem S_bl (h_am : C_am (fun _ => true) g_am) (h_az : C_az p_az g_az) (h_b2 : C_b2 p_b2 g_b2) (h_bk : C_bk p_bk g_bk) {pre fn} (hev : Hq (E_bl g_am g_az p_az g_b2 p_b2 g_bk p_bk) pre fn) : C_bl pre fn := sound tysOk mixed (fn := Tryz.f62) rfl rfl rfl (.cons h_am (.cons h_az (.cons h_b2 (.cons h_bk .nil)))) _ hev
end
abbrev M_bm : Lm := [.imm S_ReqReq]
abbrev R_bm : Lr := [(.own, S_ReqReq)]
abbrev In_bm := Iq M_bm
abbrev Out_bm := Oq R_bm M_bm
abbrev C_bm := Cq 175 M_bm R_bm
abbrev X_bm : Ctx := ctx tys 9 (conOf []) (keepOf []) nF
abbrev E_bm := evFn X_bm Tryz.f175 R_bm M_bm
theorem ev_bm (k : Nat) (x0 : Dm (.imm S_ReqReq)) : E_bm k (x0, ()) =
 (bif (fitL [] x0.2.2.2.2.2.2) then (some ((x0.1, (x0.2.1, (x0.2.2.1, (x0.2.2.2.1, (x0.2.2.2.2.1, (x0.2.2.2.2.2.1, (List.append [] x0.2.2.2.2.2.2))))))), ())) else none) := by kernel_rfl
theorem S_bm  {pre fn} (hev : Hq E_bm pre fn) : C_bm pre fn := sound tysOk mixed (fn := Tryz.f175) rfl rfl rfl ConsOk.nil _ hev
abbrev M_bn : Lm := [.imm S_ReqReq, .imm S_ReqReq]
abbrev R_bn : Lr := [(.imm, .bool)]
abbrev In_bn := Iq M_bn
abbrev Out_bn := Oq R_bn M_bn
abbrev C_bn := Cq 67 M_bn R_bn
abbrev X_bn : Ctx := ctx tys 71 (conOf []) (keepOf [(pt0, (⟨[(2, .asis), (3, .asis), (5, .asis)], [(2, .asis), (3, .asis)], []⟩ : Keep))]) nF
abbrev E_bn := evFn X_bn Tryz.f67 R_bn M_bn
def h0_bn (x0 : Dm (.imm S_ReqReq)) (x1 : Dm (.imm S_ReqReq)) (h0 : Dn I) : St := mkS [(2, (AV.ptr 2 none [])), (3, (AV.ptr 3 none [])), (5, (AV.val I h0))] [(2, (Ob.box S_ReqReq (AV.val S_ReqReq x0))), (3, (Ob.box S_ReqReq (AV.val S_ReqReq x1)))]
def r_bn := rounds X_bn Tryz.f67 R_bn M_bn
theorem ev_bn (k : Nat) (x0 : Dm (.imm S_ReqReq)) (x1 : Dm (.imm S_ReqReq)) : E_bn k (x0, x1, ()) =
 (bif (bif (decide ((List.length x0.2.2.2.2.2.2 : Int) = (List.length x1.2.2.2.2.2.2 : Int))) then false else true) then (some (false, ())) else (r_bn  (x0, x1, ()) k pt0 (h0_bn x0 x1 (0 : Int)))) := by kernel_rfl
theorem rd0_bn (k : Nat) (x0 : Dm (.imm S_ReqReq)) (x1 : Dm (.imm S_ReqReq)) (h0 : Dn I) : r_bn  (x0, x1, ()) (k + 1) pt0 (h0_bn x0 x1 h0) =
 (bif (decide (h0 < (List.length x0.2.2.2.2.2.2 : Int))) then (bif (bif (decide ((0 : Int) <= h0)) then (decide (h0 < (List.length x0.2.2.2.2.2.2 : Int))) else false) then (bif (bif (decide ((0 : Int) <= h0)) then (decide (h0 < (List.length x1.2.2.2.2.2.2 : Int))) else false) then (bif (bif (Sh.beq S_SpcTest (rdL (e := S_SpcTest) x0.2.2.2.2.2.2 h0) (rdL (e := S_SpcTest) x1.2.2.2.2.2.2 h0)) then false else true) then (some (false, ())) else (r_bn  (x0, x1, ()) k pt0 (h0_bn x0 x1 (w64 (h0 + (1 : Int)))))) else none) else none) else (bif (decide (x0.1 = x1.1)) then (bif (decide (x0.2.1 = x1.2.1)) then (bif (decide (x0.2.2.1 = x1.2.2.1)) then (bif (decide (x0.2.2.2.1 = x1.2.2.2.1)) then (bif (decide (x0.2.2.2.2.1 = x1.2.2.2.2.1)) then (some ((Sh.beq S_DecDec x0.2.2.2.2.2.1 x1.2.2.2.2.2.1), ())) else (some (false, ()))) else (some (false, ()))) else (some (false, ()))) else (some (false, ()))) else (some (false, ())))) := by kernel_rfl
theorem S_bn  {pre fn} (hev : Hq E_bn pre fn) : C_bn pre fn := sound tysOk mixed (fn := Tryz.f67) rfl rfl rfl ConsOk.nil _ hev
abbrev M_bo : Lm := [.imm S_ReqReq]
abbrev R_bo : Lr := [(.imm, .bool)]
abbrev In_bo := Iq M_bo
abbrev Out_bo := Oq R_bo M_bo
abbrev C_bo := Cq 23 M_bo R_bo
section
variable (g_a3 : In_a3 -> Out_a3) (g_aa : In_aa -> Out_aa) (g_bn : In_bn -> Out_bn) (p_bn : In_bn -> Bool) (g_ab : In_ab -> Out_ab) (g_av : In_av -> Out_av)
abbrev X_bo : Ctx := ctx tys 66 (conOf [(66, ⟨M_a3, R_a3, fun _ => true, g_a3⟩), (68, ⟨M_aa, R_aa, fun _ => true, g_aa⟩), (67, ⟨M_bn, R_bn, p_bn, g_bn⟩), (69, ⟨M_ab, R_ab, fun _ => true, g_ab⟩), (70, ⟨M_av, R_av, fun _ => true, g_av⟩)]) (keepOf []) nF
abbrev E_bo := evFn (X_bo g_a3 g_aa g_bn p_bn g_ab g_av) Tryz.f23 R_bo M_bo
variable {g_a3 g_aa g_bn p_bn g_ab g_av}
theorem ev_bo (k : Nat) (x0 : Dm (.imm S_ReqReq)) : E_bo g_a3 g_aa g_bn p_bn g_ab g_av k (x0, ()) =
 (bif (bif (g_a3 (x0.1, ((1 : Int), ((5 : Int), ())))).1 then false else true) then (some (false, ())) else (bif (bif (g_a3 (x0.2.1, ((1 : Int), ((12 : Int), ())))).1 then false else true) then (some (false, ())) else (cl (p_bn (x0, ((g_aa (x0, ())).1, ()))) (g_bn (x0, ((g_aa (x0, ())).1, ()))) fun y0 => (bif (bif y0.1 then false else true) then (some (false, ())) else (bif (bif (g_a3 (x0.2.2.1, ((0 : Int), ((9 : Int), ())))).1 then false else true) then (some (false, ())) else (bif (bif (g_a3 (x0.2.2.2.2.1, ((0 : Int), ((10000 : Int), ())))).1 then false else true) then (some (false, ())) else (bif (bif (g_ab (x0.2.2.2.2.2.1, ())).1 then false else true) then (some (false, ())) else (bif (decide (x0.2.1 = (4 : Int))) then (bif ((decide (x0.2.1 = (1 : Int))) == (g_av (x0.2.2.2.2.2.2, ())).1) then (some ((true == (g_a3 (x0.2.2.2.1, ((1 : Int), ((4 : Int), ())))).1), ())) else (some (false, ()))) else (bif (decide (x0.2.1 = (5 : Int))) then (bif ((decide (x0.2.1 = (1 : Int))) == (g_av (x0.2.2.2.2.2.2, ())).1) then (some ((true == (g_a3 (x0.2.2.2.1, ((1 : Int), ((4 : Int), ())))).1), ())) else (some (false, ()))) else (bif ((decide (x0.2.1 = (1 : Int))) == (g_av (x0.2.2.2.2.2.2, ())).1) then (some (((decide (x0.2.1 = (6 : Int))) == (g_a3 (x0.2.2.2.1, ((1 : Int), ((4 : Int), ())))).1), ())) else (some (false, ())))))))))))) := by kernel_rfl
theorem S_bo (h_a3 : C_a3 (fun _ => true) g_a3) (h_aa : C_aa (fun _ => true) g_aa) (h_bn : C_bn p_bn g_bn) (h_ab : C_ab (fun _ => true) g_ab) (h_av : C_av (fun _ => true) g_av) {pre fn} (hev : Hq (E_bo g_a3 g_aa g_bn p_bn g_ab g_av) pre fn) : C_bo pre fn := sound tysOk mixed (fn := Tryz.f23) rfl rfl rfl (.cons h_a3 (.cons h_aa (.cons h_bn (.cons h_ab (.cons h_av .nil))))) _ hev
end
abbrev M_bp : Lm := [.imm I, .imm I]
abbrev R_bp : Lr := [(.imm, .str)]
abbrev In_bp := Iq M_bp
abbrev Out_bp := Oq R_bp M_bp
abbrev C_bp := Cq 214 M_bp R_bp
abbrev X_bp : Ctx := ctx tys 25 (conOf []) (keepOf [(pt4, (⟨[(0, .asis), (1, .asis), (5, .asis)], [], []⟩ : Keep))]) nF
abbrev E_bp := evFn X_bp Tryz.f214 R_bp M_bp
def h0_bp (x0 : Dm (.imm I)) (x1 : Dm (.imm I)) (h0 : Dn I) (h1 : Dn Sh.str) : St := mkS [(0, (AV.val I h0)), (1, (AV.val I x1)), (5, (AV.val Sh.str h1))] []
def r_bp := rounds X_bp Tryz.f214 R_bp M_bp
theorem ev_bp (k : Nat) (x0 : Dm (.imm I)) (x1 : Dm (.imm I)) : E_bp k (x0, x1, ()) =
 (r_bp  (x0, x1, ()) k pt4 (h0_bp x0 x1 x0 (ByteArray.mk (Array.mk [])))) := by kernel_rfl
theorem rd0_bp (k : Nat) (x0 : Dm (.imm I)) (x1 : Dm (.imm I)) (h0 : Dn I) (h1 : Dn Sh.str) : r_bp  (x0, x1, ()) (k + 1) pt4 (h0_bp x0 x1 h0 h1) =
 (bif (decide ((0 : Int) < h0)) then (bif (bif (decide ((10 : Int) = (0 : Int))) then false else true) then (bif (fitS (bytesStr [(IntKind.wrap IntKind.u8 (w64 ((48 : Int) + (Int.tmod h0 (10 : Int)))))]) h1) then (bif (bif (decide ((10 : Int) = (0 : Int))) then false else true) then (r_bp  (x0, x1, ()) k pt4 (h0_bp x0 x1 (w64 (Int.tdiv h0 (10 : Int))) (ByteArray.append (bytesStr [(IntKind.wrap IntKind.u8 (w64 ((48 : Int) + (Int.tmod h0 (10 : Int)))))]) h1))) else none) else none) else none) else (bif (decide (((ByteArray.size h1 : Nat) : Int) < x1)) then (bif (bif (decide ((10 : Int) = (0 : Int))) then false else true) then (bif (fitS (bytesStr [(IntKind.wrap IntKind.u8 (w64 ((48 : Int) + (Int.tmod h0 (10 : Int)))))]) h1) then (bif (bif (decide ((10 : Int) = (0 : Int))) then false else true) then (r_bp  (x0, x1, ()) k pt4 (h0_bp x0 x1 (w64 (Int.tdiv h0 (10 : Int))) (ByteArray.append (bytesStr [(IntKind.wrap IntKind.u8 (w64 ((48 : Int) + (Int.tmod h0 (10 : Int)))))]) h1))) else none) else none) else none) else (some (h1, ())))) := by kernel_rfl
theorem S_bp  {pre fn} (hev : Hq E_bp pre fn) : C_bp pre fn := sound tysOk mixed (fn := Tryz.f214) rfl rfl rfl ConsOk.nil _ hev
abbrev M_bq : Lm := []
abbrev R_bq : Lr := [(.imm, L_str)]
abbrev In_bq := Iq M_bq
abbrev Out_bq := Oq R_bq M_bq
abbrev C_bq := Cq 215 M_bq R_bq
abbrev X_bq : Ctx := ctx tys 2 (conOf []) (keepOf []) nF
abbrev E_bq := evFn X_bq Tryz.f215 R_bq M_bq
theorem ev_bq (k : Nat)  : E_bq k (()) =
 (some ([(ByteArray.mk (Array.mk [])), (ByteArray.mk (Array.mk [(100 : UInt8), (114 : UInt8), (97 : UInt8), (102 : UInt8), (116 : UInt8)])), (ByteArray.mk (Array.mk [(114 : UInt8), (97 : UInt8), (105 : UInt8), (115 : UInt8), (101 : UInt8)])), (ByteArray.mk (Array.mk [(116 : UInt8), (97 : UInt8), (107 : UInt8), (101 : UInt8)])), (ByteArray.mk (Array.mk [(112 : UInt8), (117 : UInt8), (116 : UInt8)])), (ByteArray.mk (Array.mk [(99 : UInt8), (97 : UInt8), (117 : UInt8), (115 : UInt8), (101 : UInt8)])), (ByteArray.mk (Array.mk [(109 : UInt8), (111 : UInt8), (114 : UInt8), (101 : UInt8)])), (ByteArray.mk (Array.mk [(111 : UInt8), (112 : UInt8), (101 : UInt8), (110 : UInt8)])), (ByteArray.mk (Array.mk [(99 : UInt8), (108 : UInt8), (111 : UInt8), (115 : UInt8), (101 : UInt8)])), (ByteArray.mk (Array.mk [(115 : UInt8), (105 : UInt8), (103 : UInt8), (110 : UInt8)])), (ByteArray.mk (Array.mk [(102 : UInt8), (114 : UInt8), (101 : UInt8), (101 : UInt8)])), (ByteArray.mk (Array.mk [(114 : UInt8), (101 : UInt8), (102 : UInt8), (117 : UInt8), (115 : UInt8), (101 : UInt8)])), (ByteArray.mk (Array.mk [(114 : UInt8), (101 : UInt8), (99 : UInt8), (97 : UInt8), (108 : UInt8), (108 : UInt8)]))], ())) := by kernel_rfl
theorem S_bq  {pre fn} (hev : Hq E_bq pre fn) : C_bq pre fn := sound tysOk mixed (fn := Tryz.f215) rfl rfl rfl ConsOk.nil _ hev
abbrev M_br : Lm := [.imm S_DecDec]
abbrev R_br : Lr := [(.imm, .str)]
abbrev In_br := Iq M_br
abbrev Out_br := Oq R_br M_br
abbrev C_br := Cq 217 M_br R_br
section
variable (g_ab : In_ab -> Out_ab) (g_a5 : In_a5 -> Out_a5) (p_a5 : In_a5 -> Bool) (g_bp : In_bp -> Out_bp) (p_bp : In_bp -> Bool)
abbrev X_br : Ctx := ctx tys 38 (conOf [(69, ⟨M_ab, R_ab, fun _ => true, g_ab⟩), (138, ⟨M_a5, R_a5, p_a5, g_a5⟩), (214, ⟨M_bp, R_bp, p_bp, g_bp⟩)]) (keepOf []) nF
abbrev E_br := evFn (X_br g_ab g_a5 p_a5 g_bp p_bp) Tryz.f217 R_br M_br
variable {g_ab g_a5 p_a5 g_bp p_bp}
theorem ev_br (k : Nat) (x0 : Dm (.imm S_DecDec)) : E_br g_ab g_a5 p_a5 g_bp p_bp k (x0, ()) =
 (lt (ByteArray.mk (Array.mk [(46 : UInt8)])) fun s1 => (lt (ByteArray.mk (Array.mk [(45 : UInt8)])) fun s0 => (bif (bif (g_ab (x0, ())).1 then false else true) then (some ((ByteArray.mk (Array.mk [])), ())) else (bif (decide (x0.1 < (0 : Int))) then (cl (p_a5 (x0.2, ())) (g_a5 (x0.2, ())) fun y0 => (bif (bif (decide (y0.1 = (0 : Int))) then false else true) then (cl (p_bp ((w64 (Int.tdiv (w64 ((0 : Int) - x0.1)) y0.1)), ((1 : Int), ()))) (g_bp ((w64 (Int.tdiv (w64 ((0 : Int) - x0.1)) y0.1)), ((1 : Int), ()))) fun y1 => (bif (fitS s0 y1.1) then (bif (decide ((0 : Int) < x0.2)) then (bif (fitS (ByteArray.append s0 y1.1) s1) then (bif (p_a5 (x0.2, ())) then (bif (bif (decide (y0.1 = (0 : Int))) then false else true) then (cl (p_bp ((Int.tmod (w64 ((0 : Int) - x0.1)) y0.1), (x0.2, ()))) (g_bp ((Int.tmod (w64 ((0 : Int) - x0.1)) y0.1), (x0.2, ()))) fun y2 => (bif (fitS (ByteArray.append (ByteArray.append s0 y1.1) s1) y2.1) then (some ((ByteArray.append (ByteArray.append (ByteArray.append s0 y1.1) s1) y2.1), ())) else none)) else none) else none) else none) else (some ((ByteArray.append s0 y1.1), ()))) else none)) else none)) else (cl (p_a5 (x0.2, ())) (g_a5 (x0.2, ())) fun y3 => (bif (bif (decide (y3.1 = (0 : Int))) then false else true) then (cl (p_bp ((w64 (Int.tdiv x0.1 y3.1)), ((1 : Int), ()))) (g_bp ((w64 (Int.tdiv x0.1 y3.1)), ((1 : Int), ()))) fun y4 => (bif (fitS (ByteArray.mk (Array.mk [])) y4.1) then (bif (decide ((0 : Int) < x0.2)) then (bif (fitS (ByteArray.append (ByteArray.mk (Array.mk [])) y4.1) s1) then (bif (p_a5 (x0.2, ())) then (bif (bif (decide (y3.1 = (0 : Int))) then false else true) then (cl (p_bp ((Int.tmod x0.1 y3.1), (x0.2, ()))) (g_bp ((Int.tmod x0.1 y3.1), (x0.2, ()))) fun y5 => (bif (fitS (ByteArray.append (ByteArray.append (ByteArray.mk (Array.mk [])) y4.1) s1) y5.1) then (some ((ByteArray.append (ByteArray.append (ByteArray.append (ByteArray.mk (Array.mk [])) y4.1) s1) y5.1), ())) else none)) else none) else none) else none) else (some ((ByteArray.append (ByteArray.mk (Array.mk [])) y4.1), ()))) else none)) else none)))))) := by kernel_rfl
theorem S_br (h_ab : C_ab (fun _ => true) g_ab) (h_a5 : C_a5 p_a5 g_a5) (h_bp : C_bp p_bp g_bp) {pre fn} (hev : Hq (E_br g_ab g_a5 p_a5 g_bp p_bp) pre fn) : C_br pre fn := sound tysOk mixed (fn := Tryz.f217) rfl rfl rfl (.cons h_ab (.cons h_a5 (.cons h_bp .nil))) _ hev
end
abbrev M_bs : Lm := [.imm S_SpcTest]
abbrev R_bs : Lr := [(.imm, .str)]
abbrev In_bs := Iq M_bs
abbrev Out_bs := Oq R_bs M_bs
abbrev C_bs := Cq 216 M_bs R_bs
section
variable (g_bp : In_bp -> Out_bp) (p_bp : In_bp -> Bool) (g_br : In_br -> Out_br) (p_br : In_br -> Bool)
abbrev X_bs : Ctx := ctx tys 21 (conOf [(214, ⟨M_bp, R_bp, p_bp, g_bp⟩), (217, ⟨M_br, R_br, p_br, g_br⟩)]) (keepOf []) nF
abbrev E_bs := evFn (X_bs g_bp p_bp g_br p_br) Tryz.f216 R_bs M_bs
variable {g_bp p_bp g_br p_br}
theorem ev_bs (k : Nat) (x0 : Dm (.imm S_SpcTest)) : E_bs g_bp p_bp g_br p_br k (x0, ()) =
 (cl (p_bp (x0.1, ((1 : Int), ()))) (g_bp (x0.1, ((1 : Int), ()))) fun y0 => (bif (fitS y0.1 (ByteArray.mk (Array.mk [(58 : UInt8)]))) then (cl (p_br (x0.2.1, ())) (g_br (x0.2.1, ())) fun y1 => (bif (fitS (ByteArray.append y0.1 (ByteArray.mk (Array.mk [(58 : UInt8)]))) y1.1) then (bif (fitS (ByteArray.append (ByteArray.append y0.1 (ByteArray.mk (Array.mk [(58 : UInt8)]))) y1.1) (ByteArray.mk (Array.mk [(46 : UInt8), (46 : UInt8)]))) then (cl (p_br (x0.2.2.1, ())) (g_br (x0.2.2.1, ())) fun y2 => (bif (fitS (ByteArray.append (ByteArray.append (ByteArray.append y0.1 (ByteArray.mk (Array.mk [(58 : UInt8)]))) y1.1) (ByteArray.mk (Array.mk [(46 : UInt8), (46 : UInt8)]))) y2.1) then (bif (fitS (ByteArray.append (ByteArray.append (ByteArray.append (ByteArray.append y0.1 (ByteArray.mk (Array.mk [(58 : UInt8)]))) y1.1) (ByteArray.mk (Array.mk [(46 : UInt8), (46 : UInt8)]))) y2.1) (ByteArray.mk (Array.mk [(47 : UInt8)]))) then (cl (p_bp (x0.2.2.2, ((1 : Int), ()))) (g_bp (x0.2.2.2, ((1 : Int), ()))) fun y3 => (bif (fitS (ByteArray.append (ByteArray.append (ByteArray.append (ByteArray.append (ByteArray.append y0.1 (ByteArray.mk (Array.mk [(58 : UInt8)]))) y1.1) (ByteArray.mk (Array.mk [(46 : UInt8), (46 : UInt8)]))) y2.1) (ByteArray.mk (Array.mk [(47 : UInt8)]))) y3.1) then (some ((ByteArray.append (ByteArray.append (ByteArray.append (ByteArray.append (ByteArray.append (ByteArray.append y0.1 (ByteArray.mk (Array.mk [(58 : UInt8)]))) y1.1) (ByteArray.mk (Array.mk [(46 : UInt8), (46 : UInt8)]))) y2.1) (ByteArray.mk (Array.mk [(47 : UInt8)]))) y3.1), ())) else none)) else none) else none)) else none) else none)) else none)) := by kernel_rfl
theorem S_bs (h_bp : C_bp p_bp g_bp) (h_br : C_br p_br g_br) {pre fn} (hev : Hq (E_bs g_bp p_bp g_br p_br) pre fn) : C_bs pre fn := sound tysOk mixed (fn := Tryz.f216) rfl rfl rfl (.cons h_bp (.cons h_br .nil)) _ hev
end
abbrev M_bt : Lm := [.imm S_ReqReq]
abbrev R_bt : Lr := [(.imm, .str)]
abbrev In_bt := Iq M_bt
abbrev Out_bt := Oq R_bt M_bt
abbrev C_bt := Cq 202 M_bt R_bt
section
variable (g_bo : In_bo -> Out_bo) (p_bo : In_bo -> Bool) (g_bp : In_bp -> Out_bp) (p_bp : In_bp -> Bool) (g_bq : In_bq -> Out_bq) (g_bs : In_bs -> Out_bs) (p_bs : In_bs -> Bool) (g_br : In_br -> Out_br) (p_br : In_br -> Bool)
abbrev X_bt : Ctx := ctx tys 93 (conOf [(23, ⟨M_bo, R_bo, p_bo, g_bo⟩), (214, ⟨M_bp, R_bp, p_bp, g_bp⟩), (215, ⟨M_bq, R_bq, fun _ => true, g_bq⟩), (216, ⟨M_bs, R_bs, p_bs, g_bs⟩), (217, ⟨M_br, R_br, p_br, g_br⟩)]) (keepOf [(pt6, (⟨[(1, .asis), (3, .asis), (4, .asis)], [(1, .asis)], []⟩ : Keep))]) nF
abbrev E_bt := evFn (X_bt g_bo p_bo g_bp p_bp g_bq g_bs p_bs g_br p_br) Tryz.f202 R_bt M_bt
def h0_bt (x0 : Dm (.imm S_ReqReq)) (h0 : Dn Sh.str) (h1 : Dn I) : St := mkS [(1, (AV.ptr 1 none [])), (3, (AV.val Sh.str h0)), (4, (AV.val I h1))] [(1, (Ob.box S_ReqReq (AV.val S_ReqReq x0)))]
def r_bt := rounds (X_bt g_bo p_bo g_bp p_bp g_bq g_bs p_bs g_br p_br) Tryz.f202 R_bt M_bt
variable {g_bo p_bo g_bp p_bp g_bq g_bs p_bs g_br p_br}
theorem ev_bt (k : Nat) (x0 : Dm (.imm S_ReqReq)) : E_bt g_bo p_bo g_bp p_bp g_bq g_bs p_bs g_br p_br k (x0, ()) =
 (lt (Array.mk [(117 : UInt8), (115 : UInt8), (101 : UInt8), (114 : UInt8), (32 : UInt8)]) fun s4 => (lt (g_bp (x0.2.2.2.2.1, ((1 : Int), ()))) fun s3 => (lt (rdL (e := Sh.str) (g_bq ()).1 x0.2.1) fun s2 => (lt (g_bp (x0.2.2.2.1, ((1 : Int), ()))) fun s1 => (lt (ByteArray.mk (Array.mk [(32 : UInt8)])) fun s0 => (cl (p_bo (x0, ())) (g_bo (x0, ())) fun y0 => (bif (bif y0.1 then false else true) then (some ((ByteArray.mk (Array.mk [])), ())) else (cl (p_bp (x0.1, ((1 : Int), ()))) (g_bp (x0.1, ((1 : Int), ()))) fun y1 => (lt (ByteArray.append (ByteArray.mk s4) y1.1) fun s5 => (lt (ByteArray.append (ByteArray.append s5 s0) s2) fun s6 => (bif (fitS (ByteArray.mk s4) y1.1) then (bif (fitS s5 s0) then (bif (bif (decide ((0 : Int) <= x0.2.1)) then (decide (x0.2.1 < (List.length (g_bq ()).1 : Int))) else false) then (bif (fitS (ByteArray.append s5 s0) s2) then (bif (decide (x0.2.1 = (1 : Int))) then (r_bt g_bo p_bo g_bp p_bp g_bq g_bs p_bs g_br p_br (x0, ()) k pt6 (h0_bt x0 s6 (0 : Int))) else (bif (decide (x0.2.1 = (2 : Int))) then (bif (fitS s6 s0) then (cl (p_bp (x0.2.2.2.2.1, ((1 : Int), ()))) s3 fun y2 => (bif (fitS (ByteArray.append s6 s0) y2.1) then (some ((ByteArray.append (ByteArray.append s6 s0) y2.1), ())) else none)) else none) else (bif (decide (x0.2.1 = (3 : Int))) then (bif (fitS s6 s0) then (cl (p_bp (x0.2.2.2.2.1, ((1 : Int), ()))) s3 fun y3 => (bif (fitS (ByteArray.append s6 s0) y3.1) then (some ((ByteArray.append (ByteArray.append s6 s0) y3.1), ())) else none)) else none) else (bif (fitS s6 s0) then (cl (p_bp (x0.2.2.1, ((1 : Int), ()))) (g_bp (x0.2.2.1, ((1 : Int), ()))) fun y4 => (lt (ByteArray.append (ByteArray.append s6 s0) y4.1) fun s7 => (bif (fitS (ByteArray.append s6 s0) y4.1) then (bif (decide (x0.2.1 = (4 : Int))) then (bif (fitS s7 s0) then (cl (p_bp (x0.2.2.2.1, ((1 : Int), ()))) s1 fun y5 => (lt (ByteArray.append (ByteArray.append s7 s0) y5.1) fun s8 => (bif (fitS (ByteArray.append s7 s0) y5.1) then (bif (fitS s8 s0) then (cl (p_br (x0.2.2.2.2.2.1, ())) (g_br (x0.2.2.2.2.2.1, ())) fun y6 => (bif (fitS (ByteArray.append s8 s0) y6.1) then (some ((ByteArray.append (ByteArray.append s8 s0) y6.1), ())) else none)) else none) else none))) else none) else (bif (decide (x0.2.1 = (6 : Int))) then (bif (fitS s7 s0) then (cl (p_bp (x0.2.2.2.1, ((1 : Int), ()))) s1 fun y7 => (lt (ByteArray.append (ByteArray.append s7 s0) y7.1) fun s9 => (bif (fitS (ByteArray.append s7 s0) y7.1) then (bif (fitS s9 s0) then (cl (p_br (x0.2.2.2.2.2.1, ())) (g_br (x0.2.2.2.2.2.1, ())) fun y8 => (bif (fitS (ByteArray.append s9 s0) y8.1) then (some ((ByteArray.append (ByteArray.append s9 s0) y8.1), ())) else none)) else none) else none))) else none) else (bif (decide (x0.2.1 = (5 : Int))) then (bif (fitS s7 s0) then (cl (p_bp (x0.2.2.2.1, ((1 : Int), ()))) s1 fun y9 => (lt (ByteArray.append (ByteArray.append s7 s0) y9.1) fun s10 => (bif (fitS (ByteArray.append s7 s0) y9.1) then (bif (fitS s10 s0) then (cl (p_bp (x0.2.2.2.2.1, ((1 : Int), ()))) s3 fun y10 => (bif (fitS (ByteArray.append s10 s0) y10.1) then (some ((ByteArray.append (ByteArray.append s10 s0) y10.1), ())) else none)) else none) else none))) else none) else (bif (decide (x0.2.1 = (8 : Int))) then (bif (fitS s7 s0) then (cl (p_bp (x0.2.2.2.2.1, ((1 : Int), ()))) s3 fun y11 => (bif (fitS (ByteArray.append s7 s0) y11.1) then (some ((ByteArray.append (ByteArray.append s7 s0) y11.1), ())) else none)) else none) else (some (s7, ())))))) else none))) else none)))) else none) else none) else none) else none))))))))))) := by kernel_rfl
theorem rd0_bt (k : Nat) (x0 : Dm (.imm S_ReqReq)) (h0 : Dn Sh.str) (h1 : Dn I) : r_bt g_bo p_bo g_bp p_bp g_bq g_bs p_bs g_br p_br (x0, ()) (k + 1) pt6 (h0_bt x0 h0 h1) =
 (bif (decide (h1 < (List.length x0.2.2.2.2.2.2 : Int))) then (bif (fitS h0 (ByteArray.mk (Array.mk [(32 : UInt8)]))) then (bif (bif (decide ((0 : Int) <= h1)) then (decide (h1 < (List.length x0.2.2.2.2.2.2 : Int))) else false) then (cl (p_bs ((rdL (e := S_SpcTest) x0.2.2.2.2.2.2 h1), ())) (g_bs ((rdL (e := S_SpcTest) x0.2.2.2.2.2.2 h1), ())) fun y0 => (bif (fitS (ByteArray.append h0 (ByteArray.mk (Array.mk [(32 : UInt8)]))) y0.1) then (r_bt g_bo p_bo g_bp p_bp g_bq g_bs p_bs g_br p_br (x0, ()) k pt6 (h0_bt x0 (ByteArray.append (ByteArray.append h0 (ByteArray.mk (Array.mk [(32 : UInt8)]))) y0.1) (w64 (h1 + (1 : Int))))) else none)) else none) else none) else (some (h0, ()))) := by kernel_rfl
theorem S_bt (h_bo : C_bo p_bo g_bo) (h_bp : C_bp p_bp g_bp) (h_bq : C_bq (fun _ => true) g_bq) (h_bs : C_bs p_bs g_bs) (h_br : C_br p_br g_br) {pre fn} (hev : Hq (E_bt g_bo p_bo g_bp p_bp g_bq g_bs p_bs g_br p_br) pre fn) : C_bt pre fn := sound tysOk mixed (fn := Tryz.f202) rfl rfl rfl (.cons h_bo (.cons h_bp (.cons h_bq (.cons h_bs (.cons h_br .nil))))) _ hev
end
abbrev M_bu : Lm := [.imm I, .imm .str]
abbrev R_bu : Lr := [(.imm, I)]
abbrev In_bu := Iq M_bu
abbrev Out_bu := Oq R_bu M_bu
abbrev C_bu := Cq 201 M_bu R_bu
section
variable (g_ah : In_ah -> Out_ah)
abbrev X_bu : Ctx := ctx tys 22 (conOf [(153, ⟨M_ah, R_ah, fun _ => true, g_ah⟩)]) (keepOf [(pt1, (⟨[(0, .asis), (1, .asis), (5, .asis)], [], []⟩ : Keep))]) nF
abbrev E_bu := evFn (X_bu g_ah) Tryz.f201 R_bu M_bu
def h0_bu (x0 : Dm (.imm I)) (x1 : Dm (.imm .str)) (h0 : Dn I) (h1 : Dn I) : St := mkS [(0, (AV.val I h0)), (1, (AV.val Sh.str x1)), (5, (AV.val I h1))] []
def r_bu := rounds (X_bu g_ah) Tryz.f201 R_bu M_bu
variable {g_ah}
theorem ev_bu (k : Nat) (x0 : Dm (.imm I)) (x1 : Dm (.imm .str)) : E_bu g_ah k (x0, x1, ()) =
 (r_bu g_ah (x0, x1, ()) k pt1 (h0_bu x0 x1 x0 (0 : Int))) := by kernel_rfl
theorem rd0_bu (k : Nat) (x0 : Dm (.imm I)) (x1 : Dm (.imm .str)) (h0 : Dn I) (h1 : Dn I) : r_bu g_ah (x0, x1, ()) (k + 1) pt1 (h0_bu x0 x1 h0 h1) =
 (bif (decide (h1 < ((ByteArray.size x1 : Nat) : Int))) then (bif (bif (decide ((0 : Int) <= h1)) then (decide (h1 < ((ByteArray.size x1 : Nat) : Int))) else false) then (r_bu g_ah (x0, x1, ()) k pt1 (h0_bu x0 x1 ((g_ah (h0, ((w64 (strAt x1 h1)), ()))).1) (w64 (h1 + (1 : Int))))) else none) else (some ((g_ah (h0, (((ByteArray.size x1 : Nat) : Int), ()))).1, ()))) := by kernel_rfl
theorem S_bu (h_ah : C_ah (fun _ => true) g_ah) {pre fn} (hev : Hq (E_bu g_ah) pre fn) : C_bu pre fn := sound tysOk mixed (fn := Tryz.f201) rfl rfl rfl (.cons h_ah .nil) _ hev
end
abbrev M_bv : Lm := [.imm I, .imm S_ReqReq]
abbrev R_bv : Lr := [(.imm, I)]
abbrev In_bv := Iq M_bv
abbrev Out_bv := Oq R_bv M_bv
abbrev C_bv := Cq 176 M_bv R_bv
section
variable (g_bo : In_bo -> Out_bo) (p_bo : In_bo -> Bool) (g_a3 : In_a3 -> Out_a3) (g_ah : In_ah -> Out_ah) (g_bt : In_bt -> Out_bt) (p_bt : In_bt -> Bool) (g_bu : In_bu -> Out_bu) (p_bu : In_bu -> Bool)
abbrev X_bv : Ctx := ctx tys 18 (conOf [(23, ⟨M_bo, R_bo, p_bo, g_bo⟩), (66, ⟨M_a3, R_a3, fun _ => true, g_a3⟩), (153, ⟨M_ah, R_ah, fun _ => true, g_ah⟩), (202, ⟨M_bt, R_bt, p_bt, g_bt⟩), (201, ⟨M_bu, R_bu, p_bu, g_bu⟩)]) (keepOf []) nF
abbrev E_bv := evFn (X_bv g_bo p_bo g_a3 g_ah g_bt p_bt g_bu p_bu) Tryz.f176 R_bv M_bv
variable {g_bo p_bo g_a3 g_ah g_bt p_bt g_bu p_bu}
theorem ev_bv (k : Nat) (x0 : Dm (.imm I)) (x1 : Dm (.imm S_ReqReq)) : E_bv g_bo p_bo g_a3 g_ah g_bt p_bt g_bu p_bu k (x0, x1, ()) =
 (cl (p_bo (x1, ())) (g_bo (x1, ())) fun y0 => (bif (bif y0.1 then false else true) then (some ((0 : Int), ())) else (bif (bif (g_a3 (x0, ((0 : Int), ((999982 : Int), ())))).1 then false else true) then (some ((0 : Int), ())) else (cl (p_bt (x1, ())) (g_bt (x1, ())) fun y1 => (cl (p_bu ((g_ah (x0, ((3 : Int), ()))).1, (y1.1, ()))) (g_bu ((g_ah (x0, ((3 : Int), ()))).1, (y1.1, ()))) fun y2 => (some (y2.1, ()))))))) := by kernel_rfl
theorem S_bv (h_bo : C_bo p_bo g_bo) (h_a3 : C_a3 (fun _ => true) g_a3) (h_ah : C_ah (fun _ => true) g_ah) (h_bt : C_bt p_bt g_bt) (h_bu : C_bu p_bu g_bu) {pre fn} (hev : Hq (E_bv g_bo p_bo g_a3 g_ah g_bt p_bt g_bu p_bu) pre fn) : C_bv pre fn := sound tysOk mixed (fn := Tryz.f176) rfl rfl rfl (.cons h_bo (.cons h_a3 (.cons h_ah (.cons h_bt (.cons h_bu .nil))))) _ hev
end
abbrev M_bw : Lm := [.imm L_AudLine, .imm S_ReqReq]
abbrev R_bw : Lr := [(.own, L_AudLine)]
abbrev In_bw := Iq M_bw
abbrev Out_bw := Oq R_bw M_bw
abbrev C_bw := Cq 120 M_bw R_bw
section
variable (g_bm : In_bm -> Out_bm) (p_bm : In_bm -> Bool) (g_bo : In_bo -> Out_bo) (p_bo : In_bo -> Bool) (g_bv : In_bv -> Out_bv) (p_bv : In_bv -> Bool)
abbrev X_bw : Ctx := ctx tys 58 (conOf [(175, ⟨M_bm, R_bm, p_bm, g_bm⟩), (23, ⟨M_bo, R_bo, p_bo, g_bo⟩), (176, ⟨M_bv, R_bv, p_bv, g_bv⟩)]) (keepOf [(pt0, (⟨[(0, .asis), (3, .asis), (5, .own), (6, .asis)], [(3, .asis)], []⟩ : Keep))]) nF
abbrev E_bw := evFn (X_bw g_bm p_bm g_bo p_bo g_bv p_bv) Tryz.f120 R_bw M_bw
def h0_bw (x0 : Dm (.imm L_AudLine)) (x1 : Dm (.imm S_ReqReq)) (h0 : Dn I) (h1 : (List (Dn S_AudLine))) : St := mkS [(0, (AV.val L_AudLine x0)), (3, (AV.ptr 3 none [])), (5, (AV.sref 2505 none [])), (6, (AV.val I h0))] [(3, (Ob.box S_ReqReq (AV.val S_ReqReq x1))), (2505, (Ob.arr 176 S_AudLine h1))]
def r_bw := rounds (X_bw g_bm p_bm g_bo p_bo g_bv p_bv) Tryz.f120 R_bw M_bw
variable {g_bm p_bm g_bo p_bo g_bv p_bv}
theorem ev_bw (k : Nat) (x0 : Dm (.imm L_AudLine)) (x1 : Dm (.imm S_ReqReq)) : E_bw g_bm p_bm g_bo p_bo g_bv p_bv k (x0, x1, ()) =
 (r_bw g_bm p_bm g_bo p_bo g_bv p_bv (x0, x1, ()) k pt0 (h0_bw x0 x1 (0 : Int) [])) := by kernel_rfl
theorem rd0_bw (k : Nat) (x0 : Dm (.imm L_AudLine)) (x1 : Dm (.imm S_ReqReq)) (h0 : Dn I) (h1 : (List (Dn S_AudLine))) : r_bw g_bm p_bm g_bo p_bo g_bv p_bv (x0, x1, ()) (k + 1) pt0 (h0_bw x0 x1 h0 h1) =
 (lt (rdL (e := S_AudLine) x0 h0) fun s1 => (lt (w64 ((List.length x0 : Int) - (1 : Int))) fun s0 => (bif (decide (h0 < (List.length x0 : Int))) then (bif (bif (decide ((0 : Int) <= h0)) then (decide (h0 < (List.length x0 : Int))) else false) then (cl (p_bm (s1.1, ())) (g_bm (s1.1, ())) fun y0 => (bif (bif (decide ((0 : Int) <= h0)) then (decide (h0 < (List.length x0 : Int))) else false) then (bif (fitL h1 [(y0.1, s1.2)]) then (r_bw g_bm p_bm g_bo p_bo g_bv p_bv (x0, x1, ()) k pt0 (h0_bw x0 x1 (w64 (h0 + (1 : Int))) (List.append h1 [(y0.1, s1.2)]))) else none) else none)) else none) else (cl (p_bo (x1, ())) (g_bo (x1, ())) fun y1 => (bif (bif y1.1 then false else true) then (some (h1, ())) else (bif (decide ((120 : Int) <= (List.length x0 : Int))) then (some (h1, ())) else (bif (decide ((0 : Int) < (List.length x0 : Int))) then (bif (bif (decide ((0 : Int) <= s0)) then (decide (s0 < (List.length x0 : Int))) else false) then (cl (p_bm (x1, ())) (g_bm (x1, ())) fun y2 => (cl (p_bv ((rdL (e := S_AudLine) x0 s0).2, (x1, ()))) (g_bv ((rdL (e := S_AudLine) x0 s0).2, (x1, ()))) fun y3 => (bif (fitL h1 [(y2.1, y3.1)]) then (some ((List.append h1 [(y2.1, y3.1)]), ())) else none))) else none) else (cl (p_bm (x1, ())) (g_bm (x1, ())) fun y4 => (cl (p_bv ((0 : Int), (x1, ()))) (g_bv ((0 : Int), (x1, ()))) fun y5 => (bif (fitL h1 [(y4.1, y5.1)]) then (some ((List.append h1 [(y4.1, y5.1)]), ())) else none)))))))))) := by kernel_rfl
theorem S_bw (h_bm : C_bm p_bm g_bm) (h_bo : C_bo p_bo g_bo) (h_bv : C_bv p_bv g_bv) {pre fn} (hev : Hq (E_bw g_bm p_bm g_bo p_bo g_bv p_bv) pre fn) : C_bw pre fn := sound tysOk mixed (fn := Tryz.f120) rfl rfl rfl (.cons h_bm (.cons h_bo (.cons h_bv .nil))) _ hev
end
abbrev M_bx : Lm := [.pI S_sl20Rd]
abbrev R_bx : Lr := [(.imm, S_HouHouse), (.imm, L_AudLine)]
abbrev In_bx := Iq M_bx
abbrev Out_bx := Oq R_bx M_bx
abbrev C_bx := Cq 56 M_bx R_bx
section
variable (g_a2 : In_a2 -> Out_a2) (p_a2 : In_a2 -> Bool) (g_a4 : In_a4 -> Out_a4) (p_a4 : In_a4 -> Bool) (g_a1 : In_a1 -> Out_a1) (p_a1 : In_a1 -> Bool) (g_ao : In_ao -> Out_ao) (p_ao : In_ao -> Bool) (g_as : In_as -> Out_as) (p_as : In_as -> Bool) (g_bl : In_bl -> Out_bl) (p_bl : In_bl -> Bool) (g_bw : In_bw -> Out_bw) (p_bw : In_bw -> Bool)
abbrev X_bx : Ctx := ctx tys 43 (conOf [(118, ⟨M_a2, R_a2, p_a2, g_a2⟩), (117, ⟨M_a4, R_a4, p_a4, g_a4⟩), (58, ⟨M_a1, R_a1, p_a1, g_a1⟩), (119, ⟨M_ao, R_ao, p_ao, g_ao⟩), (63, ⟨M_as, R_as, p_as, g_as⟩), (62, ⟨M_bl, R_bl, p_bl, g_bl⟩), (120, ⟨M_bw, R_bw, p_bw, g_bw⟩)]) (keepOf [(pt2, (⟨[(0, .asis), (2, .asis), (4, .asis), (5, .own), (6, .asis)], [(2, (.pair .own (.pair .own .own))), (4, .asis), (5000, .asis)], []⟩ : Keep))]) (fzOf [(3, [4]), (10, [4])])
abbrev E_bx := evFn (X_bx g_a2 p_a2 g_a4 p_a4 g_a1 p_a1 g_ao p_ao g_as p_as g_bl p_bl g_bw p_bw) Tryz.f56 R_bx M_bx
def h0_bx (x0 : Dm (.pI S_sl20Rd)) (h0 : Dn I) (h1 : (List (Dn I))) (h2 : (List (Dn S_SpcSpec))) (h3 : (List (Dn S_BatBatch))) (h4 : Dn S_HouHouse) (h5 : Dn S_sl20Rd) (h6 : (List (Dn S_AudLine))) : St := mkS [(0, (AV.ptr 5000 none [])), (2, (AV.ptr 2 none [])), (4, (AV.ptr 4 none [])), (5, (AV.sref 2505 none [])), (6, (AV.val I h0))] [(2, (Ob.box S_HouHouse (AV.pair (AV.sref 2502 none []) (AV.pair (AV.sref 12502 none []) (AV.sref 22502 none []))))), (2502, (Ob.arr 3 I h1)), (12502, (Ob.arr 83 S_SpcSpec h2)), (22502, (Ob.arr 45 S_BatBatch h3)), (4, (Ob.box S_HouHouse (AV.val S_HouHouse h4))), (5000, (Ob.box S_sl20Rd (AV.val S_sl20Rd h5))), (2505, (Ob.arr 176 S_AudLine h6))]
def r_bx := rounds (X_bx g_a2 p_a2 g_a4 p_a4 g_a1 p_a1 g_ao p_ao g_as p_as g_bl p_bl g_bw p_bw) Tryz.f56 R_bx M_bx
variable {g_a2 p_a2 g_a4 p_a4 g_a1 p_a1 g_ao p_ao g_as p_as g_bl p_bl g_bw p_bw}
theorem ev_bx (k : Nat) (x0 : Dm (.pI S_sl20Rd)) : E_bx g_a2 p_a2 g_a4 p_a4 g_a1 p_a1 g_ao p_ao g_as p_as g_bl p_bl g_bw p_bw k (x0, ()) =
 (cl (p_a2 (x0, ())) (g_a2 (x0, ())) fun y0 => (cl (p_a4 (y0.1, ())) (g_a4 (y0.1, ())) fun y1 => (cl (p_a1 (y0.2.1, ((40 : Int), ()))) (g_a1 (y0.2.1, ((40 : Int), ()))) fun y2 => (cl (p_a1 (y2.2.1, ((5 : Int), ()))) (g_a1 (y2.2.1, ((5 : Int), ()))) fun y3 => (bif (bif (decide ((0 : Int) <= y3.1)) then (decide (y3.1 < (List.length [(0 : Int), (8 : Int), (20 : Int), (32 : Int), (y2.1)] : Int))) else false) then (r_bx g_a2 p_a2 g_a4 p_a4 g_a1 p_a1 g_ao p_ao g_as p_as g_bl p_bl g_bw p_bw (x0, ()) k pt2 (h0_bx x0 (rdL (e := I) [(0 : Int), (8 : Int), (20 : Int), (32 : Int), (y2.1)] y3.1) [] [] [] (y1.1) (y3.2.1) [])) else none))))) := by kernel_rfl
theorem rd0_bx (k : Nat) (x0 : Dm (.pI S_sl20Rd)) (h0 : Dn I) (h1 : (List (Dn I))) (h2 : (List (Dn S_SpcSpec))) (h3 : (List (Dn S_BatBatch))) (h4 : Dn S_HouHouse) (h5 : Dn S_sl20Rd) (h6 : (List (Dn S_AudLine))) : r_bx g_a2 p_a2 g_a4 p_a4 g_a1 p_a1 g_ao p_ao g_as p_as g_bl p_bl g_bw p_bw (x0, ()) (k + 1) pt2 (h0_bx x0 h0 h1 h2 h3 h4 h5 h6) =
 (bif (decide ((0 : Int) < h0)) then (cl (p_ao (h5, (h4, ()))) (g_ao (h5, (h4, ()))) fun y0 => (cl (p_as (h4, ())) (g_as (h4, ())) fun y1 => (cl (p_bl (y1.1, (y0.1, ()))) (g_bl (y1.1, (y0.1, ()))) fun y2 => (bif (decide (y2.2.1 = (1 : Int))) then (cl (p_bw (h6, (y0.1, ()))) (g_bw (h6, (y0.1, ()))) fun y3 => (r_bx g_a2 p_a2 g_a4 p_a4 g_a1 p_a1 g_ao p_ao g_as p_as g_bl p_bl g_bw p_bw (x0, ()) k pt2 (h0_bx x0 (w64 (h0 - (1 : Int))) h1 h2 h3 (y2.1) (y0.2.1) (y3.1)))) else (r_bx g_a2 p_a2 g_a4 p_a4 g_a1 p_a1 g_ao p_ao g_as p_as g_bl p_bl g_bw p_bw (x0, ()) k pt2 (h0_bx x0 (w64 (h0 - (1 : Int))) h1 h2 h3 h4 (y0.2.1) h6)))))) else (some (h4, (h6, (h5, ()))))) := by kernel_rfl
theorem S_bx (h_a2 : C_a2 p_a2 g_a2) (h_a4 : C_a4 p_a4 g_a4) (h_a1 : C_a1 p_a1 g_a1) (h_ao : C_ao p_ao g_ao) (h_as : C_as p_as g_as) (h_bl : C_bl p_bl g_bl) (h_bw : C_bw p_bw g_bw) {pre fn} (hev : Hq (E_bx g_a2 p_a2 g_a4 p_a4 g_a1 p_a1 g_ao p_ao g_as p_as g_bl p_bl g_bw p_bw) pre fn) : C_bx pre fn := sound tysOk mixed (fn := Tryz.f56) rfl rfl rfl (.cons h_a2 (.cons h_a4 (.cons h_a1 (.cons h_ao (.cons h_as (.cons h_bl (.cons h_bw .nil))))))) _ hev
end
abbrev M_by : Lm := [.pI S_sl20Rd, .imm I]
abbrev R_by : Lr := [(.own, S_TstTest)]
abbrev In_by := Iq M_by
abbrev Out_by := Oq R_by M_by
abbrev C_by := Cq 181 M_by R_by
section
variable (g_a1 : In_a1 -> Out_a1) (p_a1 : In_a1 -> Bool) (g_a7 : In_a7 -> Out_a7) (p_a7 : In_a7 -> Bool) (g_b0 : In_b0 -> Out_b0) (g_af : In_af -> Out_af) (p_af : In_af -> Bool) (g_bc : In_bc -> Out_bc) (p_bc : In_bc -> Bool) (g_bd : In_bd -> Out_bd) (p_bd : In_bd -> Bool) (g_be : In_be -> Out_be) (p_be : In_be -> Bool) (g_a6 : In_a6 -> Out_a6) (p_a6 : In_a6 -> Bool)
abbrev X_by : Ctx := ctx tys 90 (conOf [(58, ⟨M_a1, R_a1, p_a1, g_a1⟩), (177, ⟨M_a7, R_a7, p_a7, g_a7⟩), (180, ⟨M_b0, R_b0, fun _ => true, g_b0⟩), (94, ⟨M_af, R_af, p_af, g_af⟩), (160, ⟨M_bc, R_bc, p_bc, g_bc⟩), (161, ⟨M_bd, R_bd, p_bd, g_bd⟩), (162, ⟨M_be, R_be, p_be, g_be⟩), (93, ⟨M_a6, R_a6, p_a6, g_a6⟩)]) (keepOf [(pt0, (⟨[(0, .asis), (1, .asis), (4, .asis), (5, .asis), (6, .asis)], [(4, (.pair .asis (.pair .asis (.pair .asis (.pair .asis .own))))), (5, (.pair .asis (.pair .asis (.pair .asis (.pair .asis .own))))), (5000, .asis)], []⟩ : Keep))]) nF
abbrev E_by := evFn (X_by g_a1 p_a1 g_a7 p_a7 g_b0 g_af p_af g_bc p_bc g_bd p_bd g_be p_be g_a6 p_a6) Tryz.f181 R_by M_by
def h0_by (x0 : Dm (.pI S_sl20Rd)) (x1 : Dm (.imm I)) (h0 : Dn I) (h1 : Dn S_SpcTest) (h2 : Dn I) (h3 : Dn S_DecDec) (h4 : Dn I) (h5 : (List (Dn S_DecDec))) (h6 : Dn S_SpcTest) (h7 : Dn I) (h8 : Dn S_DecDec) (h9 : Dn I) (h10 : (List (Dn S_DecDec))) (h11 : Dn S_sl20Rd) : St := mkS [(0, (AV.ptr 5000 none [])), (1, (AV.val I x1)), (4, (AV.ptr 4 none [])), (5, (AV.ptr 5 none [])), (6, (AV.val I h0))] [(4, (Ob.box S_TstTest (AV.pair (AV.val S_SpcTest h1) (AV.pair (AV.val I h2) (AV.pair (AV.val S_DecDec h3) (AV.pair (AV.val I h4) (AV.sref 2504 none []))))))), (2504, (Ob.arr 29 S_DecDec h5)), (5, (Ob.box S_TstTest (AV.pair (AV.val S_SpcTest h6) (AV.pair (AV.val I h7) (AV.pair (AV.val S_DecDec h8) (AV.pair (AV.val I h9) (AV.sref 2505 none []))))))), (2505, (Ob.arr 29 S_DecDec h10)), (5000, (Ob.box S_sl20Rd (AV.val S_sl20Rd h11)))]
def r_by := rounds (X_by g_a1 p_a1 g_a7 p_a7 g_b0 g_af p_af g_bc p_bc g_bd p_bd g_be p_be g_a6 p_a6) Tryz.f181 R_by M_by
variable {g_a1 p_a1 g_a7 p_a7 g_b0 g_af p_af g_bc p_bc g_bd p_bd g_be p_be g_a6 p_a6}
theorem ev_by (k : Nat) (x0 : Dm (.pI S_sl20Rd)) (x1 : Dm (.imm I)) : E_by g_a1 p_a1 g_a7 p_a7 g_b0 g_af p_af g_bc p_bc g_bd p_bd g_be p_be g_a6 p_a6 k (x0, x1, ()) =
 (cl (p_a1 (x0, ((4 : Int), ()))) (g_a1 (x0, ((4 : Int), ()))) fun y0 => (cl (p_a7 (y0.2.1, ((w64 ((1 : Int) + y0.1)), ((9999 : Int), ())))) (g_a7 (y0.2.1, ((w64 ((1 : Int) + y0.1)), ((9999 : Int), ())))) fun y1 => (cl (p_a1 (y1.2.1, ((5 : Int), ()))) (g_a1 (y1.2.1, ((5 : Int), ()))) fun y2 => (r_by g_a1 p_a1 g_a7 p_a7 g_b0 g_af p_af g_bc p_bc g_bd p_bd g_be p_be g_a6 p_a6 (x0, x1, ()) k pt0 (h0_by x0 x1 (y2.1) ((0 : Int), (((0 : Int), (0 : Int)), (((0 : Int), (0 : Int)), (0 : Int)))) (0 : Int) ((0 : Int), (0 : Int)) (0 : Int) [] ((g_b0 (y1.1, ())).1.1) ((g_b0 (y1.1, ())).1.2.1) ((g_b0 (y1.1, ())).1.2.2.1) ((g_b0 (y1.1, ())).1.2.2.2.1) ((g_b0 (y1.1, ())).1.2.2.2.2) (y2.2.1)))))) := by kernel_rfl
theorem rd0_by (k : Nat) (x0 : Dm (.pI S_sl20Rd)) (x1 : Dm (.imm I)) (h0 : Dn I) (h1 : Dn S_SpcTest) (h2 : Dn I) (h3 : Dn S_DecDec) (h4 : Dn I) (h5 : (List (Dn S_DecDec))) (h6 : Dn S_SpcTest) (h7 : Dn I) (h8 : Dn S_DecDec) (h9 : Dn I) (h10 : (List (Dn S_DecDec))) (h11 : Dn S_sl20Rd) : r_by g_a1 p_a1 g_a7 p_a7 g_b0 g_af p_af g_bc p_bc g_bd p_bd g_be p_be g_a6 p_a6 (x0, x1, ()) (k + 1) pt0 (h0_by x0 x1 h0 h1 h2 h3 h4 h5 h6 h7 h8 h9 h10 h11) =
 (bif (decide ((0 : Int) < h0)) then (bif (decide (h7 = (0 : Int))) then (cl (p_af (h11, (h6, ()))) (g_af (h11, (h6, ()))) fun y0 => (cl (p_bc ((h6, (h7, (h8, (h9, h10)))), (y0.1, ()))) (g_bc ((h6, (h7, (h8, (h9, h10)))), (y0.1, ()))) fun y1 => (r_by g_a1 p_a1 g_a7 p_a7 g_b0 g_af p_af g_bc p_bc g_bd p_bd g_be p_be g_a6 p_a6 (x0, x1, ()) k pt0 (h0_by x0 x1 (w64 (h0 - (1 : Int))) h1 h2 h3 h4 h5 (y1.1.1) (y1.1.2.1) (y1.1.2.2.1) (y1.1.2.2.2.1) (y1.1.2.2.2.2) (y0.2.1))))) else (bif (decide (h7 = (1 : Int))) then (cl (p_a1 (h11, ((3 : Int), ()))) (g_a1 (h11, ((3 : Int), ()))) fun y2 => (cl (p_bd ((h6, (h7, (h8, (h9, h10)))), ((w64 ((1 : Int) + y2.1)), ()))) (g_bd ((h6, (h7, (h8, (h9, h10)))), ((w64 ((1 : Int) + y2.1)), ()))) fun y3 => (r_by g_a1 p_a1 g_a7 p_a7 g_b0 g_af p_af g_bc p_bc g_bd p_bd g_be p_be g_a6 p_a6 (x0, x1, ()) k pt0 (h0_by x0 x1 (w64 (h0 - (1 : Int))) h1 h2 h3 h4 h5 (y3.1.1) (y3.1.2.1) (y3.1.2.2.1) (y3.1.2.2.2.1) (y3.1.2.2.2.2) (y2.2.1))))) else (bif (decide (h7 = (2 : Int))) then (cl (p_af (h11, (h6, ()))) (g_af (h11, (h6, ()))) fun y4 => (cl (p_be ((h6, (h7, (h8, (h9, h10)))), (y4.1, ()))) (g_be ((h6, (h7, (h8, (h9, h10)))), (y4.1, ()))) fun y5 => (r_by g_a1 p_a1 g_a7 p_a7 g_b0 g_af p_af g_bc p_bc g_bd p_bd g_be p_be g_a6 p_a6 (x0, x1, ()) k pt0 (h0_by x0 x1 (w64 (h0 - (1 : Int))) h1 h2 h3 h4 h5 (y5.1.1) (y5.1.2.1) (y5.1.2.2.1) (y5.1.2.2.2.1) (y5.1.2.2.2.2) (y4.2.1))))) else (r_by g_a1 p_a1 g_a7 p_a7 g_b0 g_af p_af g_bc p_bc g_bd p_bd g_be p_be g_a6 p_a6 (x0, x1, ()) k pt0 (h0_by x0 x1 (w64 (h0 - (1 : Int))) h1 h2 h3 h4 h5 h6 h7 h8 h9 h10 h11))))) else (cl (p_a1 (h11, (x1, ()))) (g_a1 (h11, (x1, ()))) fun y6 => (bif (decide ((0 : Int) < y6.1)) then (some ((h6, (h7, (h8, (h9, h10)))), (y6.2.1, ()))) else (cl (p_a1 (y6.2.1, ((5 : Int), ()))) (g_a1 (y6.2.1, ((5 : Int), ()))) fun y7 => (bif (decide (y7.1 = (0 : Int))) then (cl (p_a1 (y7.2.1, ((7 : Int), ()))) (g_a1 (y7.2.1, ((7 : Int), ()))) fun y8 => (some ((h6, ((w64 (y8.1 - (1 : Int))), (h8, (h9, h10)))), (y8.2.1, ())))) else (bif (decide (y7.1 = (1 : Int))) then (cl (p_a6 (y7.2.1, ((2 : Int), ()))) (g_a6 (y7.2.1, ((2 : Int), ()))) fun y9 => (some ((h6, (h7, (y9.1, (h9, h10)))), (y9.2.1, ())))) else (bif (decide (y7.1 = (2 : Int))) then (cl (p_a1 (y7.2.1, ((6 : Int), ()))) (g_a1 (y7.2.1, ((6 : Int), ()))) fun y10 => (some ((h6, (h7, (h8, ((w64 (y10.1 - (1 : Int))), h10)))), (y10.2.1, ())))) else (bif (decide (y7.1 = (3 : Int))) then (cl (p_a6 (y7.2.1, ((2 : Int), ()))) (g_a6 (y7.2.1, ((2 : Int), ()))) fun y11 => (bif (fitL h10 [(y11.1)]) then (some ((h6, (h7, (h8, (h9, (List.append h10 [(y11.1)]))))), (y11.2.1, ()))) else none)) else (cl (p_a7 (y7.2.1, ((1 : Int), ((1 : Int), ())))) (g_a7 (y7.2.1, ((1 : Int), ((1 : Int), ())))) fun y12 => (some ((y12.1, (h7, (h8, (h9, h10)))), (y12.2.1, ())))))))))))) := by kernel_rfl
theorem S_by (h_a1 : C_a1 p_a1 g_a1) (h_a7 : C_a7 p_a7 g_a7) (h_b0 : C_b0 (fun _ => true) g_b0) (h_af : C_af p_af g_af) (h_bc : C_bc p_bc g_bc) (h_bd : C_bd p_bd g_bd) (h_be : C_be p_be g_be) (h_a6 : C_a6 p_a6 g_a6) {pre fn} (hev : Hq (E_by g_a1 p_a1 g_a7 p_a7 g_b0 g_af p_af g_bc p_bc g_bd p_bd g_be p_be g_a6 p_a6) pre fn) : C_by pre fn := sound tysOk mixed (fn := Tryz.f181) rfl rfl rfl (.cons h_a1 (.cons h_a7 (.cons h_b0 (.cons h_af (.cons h_bc (.cons h_bd (.cons h_be (.cons h_a6 .nil)))))))) _ hev
end
abbrev M_bz : Lm := [.pI S_sl20Rd, .imm S_BatBatch]
abbrev R_bz : Lr := [(.imm, S_BatBatch)]
abbrev In_bz := Iq M_bz
abbrev Out_bz := Oq R_bz M_bz
abbrev C_bz := Cq 124 M_bz R_bz
section
variable (g_ar : In_ar -> Out_ar) (p_ar : In_ar -> Bool) (g_a1 : In_a1 -> Out_a1) (p_a1 : In_a1 -> Bool) (g_ai : In_ai -> Out_ai) (p_ai : In_ai -> Bool) (g_by : In_by -> Out_by) (p_by : In_by -> Bool)
abbrev X_bz : Ctx := ctx tys 83 (conOf [(86, ⟨M_ar, R_ar, p_ar, g_ar⟩), (58, ⟨M_a1, R_a1, p_a1, g_a1⟩), (87, ⟨M_ai, R_ai, p_ai, g_ai⟩), (181, ⟨M_by, R_by, p_by, g_by⟩)]) (keepOf []) (fzOf [(4, [3])])
abbrev E_bz := evFn (X_bz g_ar p_ar g_a1 p_a1 g_ai p_ai g_by p_by) Tryz.f124 R_bz M_bz
variable {g_ar p_ar g_a1 p_a1 g_ai p_ai g_by p_by}
theorem ev_bz (k : Nat) (x0 : Dm (.pI S_sl20Rd)) (x1 : Dm (.imm S_BatBatch)) : E_bz g_ar p_ar g_a1 p_a1 g_ai p_ai g_by p_by k (x0, x1, ()) =
 (cl (p_ar (x1, ())) (g_ar (x1, ())) fun y0 => (cl (p_a1 (x0, ((8 : Int), ()))) (g_a1 (x0, ((8 : Int), ()))) fun y1 => (bif (decide (y1.1 = (0 : Int))) then (cl (p_a1 (y1.2.1, ((3 : Int), ()))) (g_a1 (y1.2.1, ((3 : Int), ()))) fun y2 => (bif (bif (decide ((0 : Int) <= y2.1)) then (decide (y2.1 < (List.length [(-1 : Int), (6 : Int), (5 : Int)] : Int))) else false) then (some (((rdL (e := I) [(-1 : Int), (6 : Int), (5 : Int)] y2.1), y0.1.2), (y2.2.1, ()))) else none)) else (bif (decide (y1.1 = (1 : Int))) then (cl (p_a1 (y1.2.1, ((2 : Int), ()))) (g_a1 (y1.2.1, ((2 : Int), ()))) fun y3 => (bif (bif (decide ((0 : Int) <= y3.1)) then (decide (y3.1 < (List.length [(0 : Int), (10001 : Int)] : Int))) else false) then (some ((y0.1.1, ((rdL (e := I) [(0 : Int), (10001 : Int)] y3.1), y0.1.2.2)), (y3.2.1, ()))) else none)) else (bif (decide (y1.1 = (2 : Int))) then (cl (p_a1 (y1.2.1, ((6 : Int), ()))) (g_a1 (y1.2.1, ((6 : Int), ()))) fun y4 => (some ((y0.1.1, (y0.1.2.1, (y0.1.2.2.1, (y4.1, y0.1.2.2.2.2)))), (y4.2.1, ())))) else (bif (decide (y1.1 = (3 : Int))) then (cl (p_a1 (y1.2.1, ((7 : Int), ()))) (g_a1 (y1.2.1, ((7 : Int), ()))) fun y5 => (cl (p_a1 (y5.2.1, ((5 : Int), ()))) (g_a1 (y5.2.1, ((5 : Int), ()))) fun y6 => (cl (p_ai (y0.1, ())) (g_ai (y0.1, ())) fun y7 => (cl (p_a1 (y6.2.1, ((4 : Int), ()))) (g_a1 (y6.2.1, ((4 : Int), ()))) fun y8 => (bif (bif (decide ((0 : Int) <= y8.1)) then (decide (y8.1 < (List.length [(y7.1), (0 : Int), (-1 : Int), (999983 : Int)] : Int))) else false) then (bif (fitL y0.1.2.2.2.2.1 [(y5.1, (y6.1, (rdL (e := I) [(y7.1), (0 : Int), (-1 : Int), (999983 : Int)] y8.1)))]) then (some ((y0.1.1, (y0.1.2.1, (y0.1.2.2.1, (y0.1.2.2.2.1, ((List.append y0.1.2.2.2.2.1 [(y5.1, (y6.1, (rdL (e := I) [(y7.1), (0 : Int), (-1 : Int), (999983 : Int)] y8.1)))]), y0.1.2.2.2.2.2))))), (y8.2.1, ()))) else none) else none))))) else (bif (decide (y1.1 = (4 : Int))) then (cl (p_a1 (y1.2.1, ((2 : Int), ()))) (g_a1 (y1.2.1, ((2 : Int), ()))) fun y9 => (bif (fitL y0.1.2.2.2.2.2 [(decide (y9.1 = (0 : Int)))]) then (some ((y0.1.1, (y0.1.2.1, (y0.1.2.2.1, (y0.1.2.2.2.1, (y0.1.2.2.2.2.1, (List.append y0.1.2.2.2.2.2 [(decide (y9.1 = (0 : Int)))])))))), (y9.2.1, ()))) else none)) else (bif (decide (y1.1 = (5 : Int))) then (bif (decide ((0 : Int) < (List.length y0.1.2.2.1 : Int))) then (cl (p_by (y1.2.1, ((2 : Int), ()))) (g_by (y1.2.1, ((2 : Int), ()))) fun y10 => (bif (bif (decide ((0 : Int) <= (0 : Int))) then (decide ((0 : Int) < (List.length y0.1.2.2.1 : Int))) else false) then (some ((y0.1.1, (y0.1.2.1, ((List.set y0.1.2.2.1 (Int.toNat (0 : Int)) y10.1), y0.1.2.2.2))), (y10.2.1, ()))) else none)) else (some (y0.1, (y1.2.1, ())))) else (bif (decide (y1.1 = (6 : Int))) then (some ((y0.1.1, (y0.1.2.1, ([], y0.1.2.2.2))), (y1.2.1, ()))) else (bif (decide ((0 : Int) < (List.length y0.1.2.2.2.2.1 : Int))) then (bif (bif (decide ((0 : Int) <= (1 : Int))) then (decide ((1 : Int) <= (List.length y0.1.2.2.2.2.1 : Int))) else false) then (some ((y0.1.1, (y0.1.2.1, (y0.1.2.2.1, (y0.1.2.2.2.1, ((dropI y0.1.2.2.2.2.1 (1 : Int)), y0.1.2.2.2.2.2))))), (y1.2.1, ()))) else none) else (some (y0.1, (y1.2.1, ()))))))))))))) := by kernel_rfl
theorem S_bz (h_ar : C_ar p_ar g_ar) (h_a1 : C_a1 p_a1 g_a1) (h_ai : C_ai p_ai g_ai) (h_by : C_by p_by g_by) {pre fn} (hev : Hq (E_bz g_ar p_ar g_a1 p_a1 g_ai p_ai g_by p_by) pre fn) : C_bz pre fn := sound tysOk mixed (fn := Tryz.f124) rfl rfl rfl (.cons h_ar (.cons h_a1 (.cons h_ai (.cons h_by .nil)))) _ hev
end
abbrev M_c0 : Lm := [.pI S_sl20Rd, .imm I]
abbrev R_c0 : Lr := [(.imm, S_BatBatch)]
abbrev In_c0 := Iq M_c0
abbrev Out_c0 := Oq R_c0 M_c0
abbrev C_c0 := Cq 78 M_c0 R_c0
section
variable (g_bx : In_bx -> Out_bx) (p_bx : In_bx -> Bool) (g_a8 : In_a8 -> Out_a8) (p_a8 : In_a8 -> Bool) (g_b1 : In_b1 -> Out_b1) (p_b1 : In_b1 -> Bool) (g_a1 : In_a1 -> Out_a1) (p_a1 : In_a1 -> Bool) (g_bz : In_bz -> Out_bz) (p_bz : In_bz -> Bool)
abbrev X_c0 : Ctx := ctx tys 53 (conOf [(56, ⟨M_bx, R_bx, p_bx, g_bx⟩), (121, ⟨M_a8, R_a8, p_a8, g_a8⟩), (123, ⟨M_b1, R_b1, p_b1, g_b1⟩), (58, ⟨M_a1, R_a1, p_a1, g_a1⟩), (124, ⟨M_bz, R_bz, p_bz, g_bz⟩)]) (keepOf [(pt0, (⟨[(0, .asis), (1, .asis), (4, .asis), (5, .asis), (7, .asis)], [(4, (.pair .asis (.pair .asis (.pair .own (.pair .asis (.pair .own .own)))))), (5, .asis), (5000, .asis)], []⟩ : Keep))]) nF
abbrev E_c0 := evFn (X_c0 g_bx p_bx g_a8 p_a8 g_b1 p_b1 g_a1 p_a1 g_bz p_bz) Tryz.f78 R_c0 M_c0
def h0_c0 (x0 : Dm (.pI S_sl20Rd)) (x1 : Dm (.imm I)) (h0 : Dn I) (h1 : Dn I) (h2 : Dn I) (h3 : Dn I) (h4 : (List (Dn S_TstTest))) (h5 : (List (Dn S_BatSig))) (h6 : (List (Dn Sh.bool))) (h7 : Dn S_HouHouse) (h8 : Dn S_sl20Rd) : St := mkS [(0, (AV.ptr 5000 none [])), (1, (AV.val I x1)), (4, (AV.ptr 4 none [])), (5, (AV.ptr 5 none [])), (7, (AV.val I h0))] [(4, (Ob.box S_BatBatch (AV.pair (AV.val I h1) (AV.pair (AV.val I h2) (AV.pair (AV.sref 2504 none []) (AV.pair (AV.val I h3) (AV.pair (AV.sref 12504 none []) (AV.sref 22504 none [])))))))), (2504, (Ob.arr 56 S_TstTest h4)), (12504, (Ob.arr 58 S_BatSig h5)), (22504, (Ob.arr 4 Sh.bool h6)), (5, (Ob.box S_HouHouse (AV.val S_HouHouse h7))), (5000, (Ob.box S_sl20Rd (AV.val S_sl20Rd h8)))]
def r_c0 := rounds (X_c0 g_bx p_bx g_a8 p_a8 g_b1 p_b1 g_a1 p_a1 g_bz p_bz) Tryz.f78 R_c0 M_c0
variable {g_bx p_bx g_a8 p_a8 g_b1 p_b1 g_a1 p_a1 g_bz p_bz}
theorem ev_c0 (k : Nat) (x0 : Dm (.pI S_sl20Rd)) (x1 : Dm (.imm I)) : E_c0 g_bx p_bx g_a8 p_a8 g_b1 p_b1 g_a1 p_a1 g_bz p_bz k (x0, x1, ()) =
 (cl (p_bx (x0, ())) (g_bx (x0, ())) fun y0 => (r_c0 g_bx p_bx g_a8 p_a8 g_b1 p_b1 g_a1 p_a1 g_bz p_bz (x0, x1, ()) k pt0 (h0_c0 x0 x1 (0 : Int) (0 : Int) (0 : Int) (0 : Int) [] [] [] (y0.1) (y0.2.2.1)))) := by kernel_rfl
theorem rd0_c0 (k : Nat) (x0 : Dm (.pI S_sl20Rd)) (x1 : Dm (.imm I)) (h0 : Dn I) (h1 : Dn I) (h2 : Dn I) (h3 : Dn I) (h4 : (List (Dn S_TstTest))) (h5 : (List (Dn S_BatSig))) (h6 : (List (Dn Sh.bool))) (h7 : Dn S_HouHouse) (h8 : Dn S_sl20Rd) : r_c0 g_bx p_bx g_a8 p_a8 g_b1 p_b1 g_a1 p_a1 g_bz p_bz (x0, x1, ()) (k + 1) pt0 (h0_c0 x0 x1 h0 h1 h2 h3 h4 h5 h6 h7 h8) =
 (lt (decide ((List.length h7.2.2 : Int) = (0 : Int))) fun s0 => (bif (decide (h0 < (6 : Int))) then (bif s0 then (cl (p_bx (h8, ())) (g_bx (h8, ())) fun y0 => (r_c0 g_bx p_bx g_a8 p_a8 g_b1 p_b1 g_a1 p_a1 g_bz p_bz (x0, x1, ()) k pt0 (h0_c0 x0 x1 (w64 (h0 + (1 : Int))) h1 h2 h3 h4 h5 h6 (y0.1) (y0.2.2.1)))) else (bif s0 then (cl (p_a8 (h8, ((9999 : Int), ()))) (g_a8 (h8, ((9999 : Int), ()))) fun y1 => (cl (p_b1 ((0 : Int), (y1.1, ((9 : Int), ())))) (g_b1 ((0 : Int), (y1.1, ((9 : Int), ())))) fun y2 => (some (y2.1, (y1.2.1, ()))))) else (cl (p_a1 (h8, ((List.length h7.2.2 : Int), ()))) (g_a1 (h8, ((List.length h7.2.2 : Int), ()))) fun y3 => (lt (rdL (e := S_BatBatch) h7.2.2 y3.1) fun s1 => (bif (bif (decide ((0 : Int) <= y3.1)) then (decide (y3.1 < (List.length h7.2.2 : Int))) else false) then (cl (p_a1 (y3.2.1, (x1, ()))) (g_a1 (y3.2.1, (x1, ()))) fun y4 => (bif (decide (y4.1 = (0 : Int))) then (cl (p_bz (y4.2.1, (s1, ()))) (g_bz (y4.2.1, (s1, ()))) fun y5 => (some (y5.1, (y5.2.1, ())))) else (some (s1, (y4.2.1, ()))))) else none))))) else (bif s0 then (cl (p_a8 (h8, ((9999 : Int), ()))) (g_a8 (h8, ((9999 : Int), ()))) fun y6 => (cl (p_b1 ((0 : Int), (y6.1, ((9 : Int), ())))) (g_b1 ((0 : Int), (y6.1, ((9 : Int), ())))) fun y7 => (some (y7.1, (y6.2.1, ()))))) else (cl (p_a1 (h8, ((List.length h7.2.2 : Int), ()))) (g_a1 (h8, ((List.length h7.2.2 : Int), ()))) fun y8 => (lt (rdL (e := S_BatBatch) h7.2.2 y8.1) fun s2 => (bif (bif (decide ((0 : Int) <= y8.1)) then (decide (y8.1 < (List.length h7.2.2 : Int))) else false) then (cl (p_a1 (y8.2.1, (x1, ()))) (g_a1 (y8.2.1, (x1, ()))) fun y9 => (bif (decide (y9.1 = (0 : Int))) then (cl (p_bz (y9.2.1, (s2, ()))) (g_bz (y9.2.1, (s2, ()))) fun y10 => (some (y10.1, (y10.2.1, ())))) else (some (s2, (y9.2.1, ()))))) else none)))))) := by kernel_rfl
theorem S_c0 (h_bx : C_bx p_bx g_bx) (h_a8 : C_a8 p_a8 g_a8) (h_b1 : C_b1 p_b1 g_b1) (h_a1 : C_a1 p_a1 g_a1) (h_bz : C_bz p_bz g_bz) {pre fn} (hev : Hq (E_c0 g_bx p_bx g_a8 p_a8 g_b1 p_b1 g_a1 p_a1 g_bz p_bz) pre fn) : C_c0 pre fn := sound tysOk mixed (fn := Tryz.f78) rfl rfl rfl (.cons h_bx (.cons h_a8 (.cons h_b1 (.cons h_a1 (.cons h_bz .nil))))) _ hev
end
abbrev M_c1 : Lm := [.imm L_u8]
abbrev R_c1 : Lr := [(.imm, S_BatBatch), (.imm, I), (.imm, I), (.imm, S_DecDec), (.imm, I)]
abbrev In_c1 := Iq M_c1
abbrev Out_c1 := Oq R_c1 M_c1
abbrev C_c1 := Cq 38 M_c1 R_c1
section
variable (g_a0 : In_a0 -> Out_a0) (p_a0 : In_a0 -> Bool) (g_c0 : In_c0 -> Out_c0) (p_c0 : In_c0 -> Bool) (g_a1 : In_a1 -> Out_a1) (p_a1 : In_a1 -> Bool) (g_a6 : In_a6 -> Out_a6) (p_a6 : In_a6 -> Bool) (g_af : In_af -> Out_af) (p_af : In_af -> Bool)
abbrev X_c1 : Ctx := ctx tys 61 (conOf [(55, ⟨M_a0, R_a0, p_a0, g_a0⟩), (78, ⟨M_c0, R_c0, p_c0, g_c0⟩), (58, ⟨M_a1, R_a1, p_a1, g_a1⟩), (93, ⟨M_a6, R_a6, p_a6, g_a6⟩), (94, ⟨M_af, R_af, p_af, g_af⟩)]) (keepOf []) nF
abbrev E_c1 := evFn (X_c1 g_a0 p_a0 g_c0 p_c0 g_a1 p_a1 g_a6 p_a6 g_af p_af) Tryz.f38 R_c1 M_c1
variable {g_a0 p_a0 g_c0 p_c0 g_a1 p_a1 g_a6 p_a6 g_af p_af}
theorem ev_c1 (k : Nat) (x0 : Dm (.imm L_u8)) : E_c1 g_a0 p_a0 g_c0 p_c0 g_a1 p_a1 g_a6 p_a6 g_af p_af k (x0, ()) =
 (cl (p_a0 (x0, ())) (g_a0 (x0, ())) fun y0 => (cl (p_c0 (y0.1, ((12 : Int), ()))) (g_c0 (y0.1, ((12 : Int), ()))) fun y1 => (cl (p_a1 (y1.2.1, ((6 : Int), ()))) (g_a1 (y1.2.1, ((6 : Int), ()))) fun y2 => (cl (p_a1 (y2.2.1, ((5 : Int), ()))) (g_a1 (y2.2.1, ((5 : Int), ()))) fun y3 => (cl (p_a6 (y3.2.1, ((12 : Int), ()))) (g_a6 (y3.2.1, ((12 : Int), ()))) fun y4 => (bif (decide ((0 : Int) < (List.length y1.1.2.2.1 : Int))) then (cl (p_a1 (y4.2.1, ((3 : Int), ()))) (g_a1 (y4.2.1, ((3 : Int), ()))) fun y5 => (bif (decide ((0 : Int) < y5.1)) then (cl (p_a1 (y5.2.1, ((List.length y1.1.2.2.1 : Int), ()))) (g_a1 (y5.2.1, ((List.length y1.1.2.2.1 : Int), ()))) fun y6 => (bif (bif (decide ((0 : Int) <= y6.1)) then (decide (y6.1 < (List.length y1.1.2.2.1 : Int))) else false) then (cl (p_af (y6.2.1, ((rdL (e := S_TstTest) y1.1.2.2.1 y6.1).1, ()))) (g_af (y6.2.1, ((rdL (e := S_TstTest) y1.1.2.2.1 y6.1).1, ()))) fun y7 => (bif (bif (decide ((5 : Int) = (0 : Int))) then false else true) then (bif (bif (decide ((0 : Int) <= (Int.tmod (w64 ((rdL (e := S_TstTest) y1.1.2.2.1 y6.1).2.1 + (5 : Int))) (5 : Int)))) then (decide ((Int.tmod (w64 ((rdL (e := S_TstTest) y1.1.2.2.1 y6.1).2.1 + (5 : Int))) (5 : Int)) < (List.length [(1 : Int), (2 : Int), (3 : Int), (1 : Int), (2 : Int)] : Int))) else false) then (cl (p_a1 (y7.2.1, ((5 : Int), ()))) (g_a1 (y7.2.1, ((5 : Int), ()))) fun y8 => (some (y1.1, ((rdL (e := S_TstTest) y1.1.2.2.1 y6.1).1.1, ((rdL (e := I) [(1 : Int), (2 : Int), (3 : Int), (1 : Int), (2 : Int)] (Int.tmod (w64 ((rdL (e := S_TstTest) y1.1.2.2.1 y6.1).2.1 + (5 : Int))) (5 : Int))), (y7.1, (y8.1, ()))))))) else none) else none)) else none)) else (cl (p_a1 (y5.2.1, ((5 : Int), ()))) (g_a1 (y5.2.1, ((5 : Int), ()))) fun y9 => (some (y1.1, (y2.1, (y3.1, (y4.1, (y9.1, ()))))))))) else (cl (p_a1 (y4.2.1, ((5 : Int), ()))) (g_a1 (y4.2.1, ((5 : Int), ()))) fun y10 => (some (y1.1, (y2.1, (y3.1, (y4.1, (y10.1, ()))))))))))))) := by kernel_rfl
theorem S_c1 (h_a0 : C_a0 p_a0 g_a0) (h_c0 : C_c0 p_c0 g_c0) (h_a1 : C_a1 p_a1 g_a1) (h_a6 : C_a6 p_a6 g_a6) (h_af : C_af p_af g_af) {pre fn} (hev : Hq (E_c1 g_a0 p_a0 g_c0 p_c0 g_a1 p_a1 g_a6 p_a6 g_af p_af) pre fn) : C_c1 pre fn := sound tysOk mixed (fn := Tryz.f38) rfl rfl rfl (.cons h_a0 (.cons h_c0 (.cons h_a1 (.cons h_a6 (.cons h_af .nil))))) _ hev
end
abbrev M_iin : Lm := [.imm I, .imm I, .imm I]
abbrev R_iin : Lr := [(.imm, .bool)]
abbrev In_iin := Iq M_iin
abbrev Out_iin := Oq R_iin M_iin
abbrev C_iin := Cq 65 M_iin R_iin
abbrev X_iin : Ctx := ctx tys 15 (conOf []) (keepOf []) nF
abbrev E_iin := evFn X_iin Tryz.f65 R_iin M_iin
theorem ev_iin (k : Nat) (x0 : Dm (.imm I)) (x1 : Dm (.imm I)) (x2 : Dm (.imm I)) : E_iin k (x0, x1, x2, ()) =
 (bif (decide (x1 <= x0)) then (some ((decide (x0 <= x2)), ())) else (some (false, ()))) := by kernel_rfl
theorem S_iin  {pre fn} (hev : Hq E_iin pre fn) : C_iin pre fn := sound tysOk mixed (fn := Tryz.f65) rfl rfl rfl ConsOk.nil _ hev
abbrev M_c2 : Lm := [.imm I]
abbrev R_c2 : Lr := [(.imm, .bool)]
abbrev In_c2 := Iq M_c2
abbrev Out_c2 := Oq R_c2 M_c2
abbrev C_c2 := Cq 76 M_c2 R_c2
section
variable (g_iin : In_iin -> Out_iin)
abbrev X_c2 : Ctx := ctx tys 5 (conOf [(65, ⟨M_iin, R_iin, fun _ => true, g_iin⟩)]) (keepOf []) nF
abbrev E_c2 := evFn (X_c2 g_iin) Tryz.f76 R_c2 M_c2
variable {g_iin}
theorem ev_c2 (k : Nat) (x0 : Dm (.imm I)) : E_c2 g_iin k (x0, ()) =
 (some ((g_iin (x0, ((1 : Int), ((4 : Int), ())))).1, ())) := by kernel_rfl
theorem S_c2 (h_iin : C_iin (fun _ => true) g_iin) {pre fn} (hev : Hq (E_c2 g_iin) pre fn) : C_c2 pre fn := sound tysOk mixed (fn := Tryz.f76) rfl rfl rfl (.cons h_iin .nil) _ hev
end
abbrev M_c3 : Lm := [.imm I]
abbrev R_c3 : Lr := [(.imm, I)]
abbrev In_c3 := Iq M_c3
abbrev Out_c3 := Oq R_c3 M_c3
abbrev C_c3 := Cq 143 M_c3 R_c3
abbrev X_c3 : Ctx := ctx tys 11 (conOf []) (keepOf [(pt0, (⟨[(3, .asis), (4, .asis), (5, .asis)], [], []⟩ : Keep))]) nF
abbrev E_c3 := evFn X_c3 Tryz.f143 R_c3 M_c3
def h0_c3 (x0 : Dm (.imm I)) (h0 : Dn I) (h1 : Dn I) : St := mkS [(3, (AV.val I h0)), (4, (AV.val I x0)), (5, (AV.val I h1))] []
def r_c3 := rounds X_c3 Tryz.f143 R_c3 M_c3
theorem ev_c3 (k : Nat) (x0 : Dm (.imm I)) : E_c3 k (x0, ()) =
 (r_c3  (x0, ()) k pt0 (h0_c3 x0 (1 : Int) (0 : Int))) := by kernel_rfl
theorem rd0_c3 (k : Nat) (x0 : Dm (.imm I)) (h0 : Dn I) (h1 : Dn I) : r_c3  (x0, ()) (k + 1) pt0 (h0_c3 x0 h0 h1) =
 (bif (decide (h1 < x0)) then (r_c3  (x0, ()) k pt0 (h0_c3 x0 (w64 (h0 * (10 : Int))) (w64 (h1 + (1 : Int))))) else (some (h0, ()))) := by kernel_rfl
theorem S_c3  {pre fn} (hev : Hq E_c3 pre fn) : C_c3 pre fn := sound tysOk mixed (fn := Tryz.f143) rfl rfl rfl ConsOk.nil _ hev
abbrev M_c4 : Lm := [.imm S_DecDec]
abbrev R_c4 : Lr := [(.imm, .bool)]
abbrev In_c4 := Iq M_c4
abbrev Out_c4 := Oq R_c4 M_c4
abbrev C_c4 := Cq 75 M_c4 R_c4
section
variable (g_iin : In_iin -> Out_iin) (g_c3 : In_c3 -> Out_c3) (p_c3 : In_c3 -> Bool)
abbrev X_c4 : Ctx := ctx tys 19 (conOf [(65, ⟨M_iin, R_iin, fun _ => true, g_iin⟩), (143, ⟨M_c3, R_c3, p_c3, g_c3⟩)]) (keepOf []) nF
abbrev E_c4 := evFn (X_c4 g_iin g_c3 p_c3) Tryz.f75 R_c4 M_c4
variable {g_iin g_c3 p_c3}
theorem ev_c4 (k : Nat) (x0 : Dm (.imm S_DecDec)) : E_c4 g_iin g_c3 p_c3 k (x0, ()) =
 (bif (g_iin (x0.2, ((0 : Int), ((3 : Int), ())))).1 then (bif (p_c3 (x0.2, ())) then (bif (p_c3 (x0.2, ())) then (some ((g_iin (x0.1, ((w64 ((-9999 : Int) * (g_c3 (x0.2, ())).1)), ((w64 ((9999 : Int) * (g_c3 (x0.2, ())).1)), ())))).1, ())) else none) else none) else (some (false, ()))) := by kernel_rfl
theorem S_c4 (h_iin : C_iin (fun _ => true) g_iin) (h_c3 : C_c3 p_c3 g_c3) {pre fn} (hev : Hq (E_c4 g_iin g_c3 p_c3) pre fn) : C_c4 pre fn := sound tysOk mixed (fn := Tryz.f75) rfl rfl rfl (.cons h_iin (.cons h_c3 .nil)) _ hev
end
abbrev M_c5 : Lm := [.imm I, .imm I]
abbrev R_c5 : Lr := [(.imm, I)]
abbrev In_c5 := Iq M_c5
abbrev Out_c5 := Oq R_c5 M_c5
abbrev C_c5 := Cq 213 M_c5 R_c5
section
variable (g_c5 : In_c5 -> Out_c5) (p_c5 : In_c5 -> Bool)
abbrev X_c5 : Ctx := ctx tys 19 (conOf [(213, ⟨M_c5, R_c5, p_c5, g_c5⟩)]) (keepOf []) nF
abbrev E_c5 := evFn (X_c5 g_c5 p_c5) Tryz.f213 R_c5 M_c5
variable {g_c5 p_c5}
theorem ev_c5 (k : Nat) (x0 : Dm (.imm I)) (x1 : Dm (.imm I)) : E_c5 g_c5 p_c5 k (x0, x1, ()) =
 (bif (decide (x0 < (0 : Int))) then (bif (p_c5 ((w64 ((0 : Int) - x0)), (x1, ()))) then (some ((w64 ((0 : Int) - (g_c5 ((w64 ((0 : Int) - x0)), (x1, ()))).1)), ())) else none) else (bif (bif (decide ((w64 ((2 : Int) * x1)) = (0 : Int))) then false else true) then (some ((w64 (Int.tdiv (w64 ((w64 ((2 : Int) * x0)) + x1)) (w64 ((2 : Int) * x1)))), ())) else none)) := by kernel_rfl
theorem S_c5 (h_c5 : C_c5 p_c5 g_c5) {pre fn} (hev : Hq (E_c5 g_c5 p_c5) pre fn) : C_c5 pre fn := sound tysOk mixed (fn := Tryz.f213) rfl rfl rfl (.cons h_c5 .nil) _ hev
end
theorem S0_c5 {fn : In_c5 -> Out_c5} : C_c5 (fun _ => false) fn := sound tysOk mixed (fn := Tryz.f213) (n := 19) (keep := keepOf []) (fz := fun _ => []) rfl rfl rfl ConsOk.nil _ fun x hx => by cases hx
abbrev M_c6 : Lm := [.imm S_DecDec, .imm I]
abbrev R_c6 : Lr := [(.imm, S_DecDec)]
abbrev In_c6 := Iq M_c6
abbrev Out_c6 := Oq R_c6 M_c6
abbrev C_c6 := Cq 197 M_c6 R_c6
section
variable (g_c4 : In_c4 -> Out_c4) (g_iin : In_iin -> Out_iin) (g_c3 : In_c3 -> Out_c3) (p_c3 : In_c3 -> Bool) (g_c5 : In_c5 -> Out_c5) (p_c5 : In_c5 -> Bool)
abbrev X_c6 : Ctx := ctx tys 40 (conOf [(75, ⟨M_c4, R_c4, fun _ => true, g_c4⟩), (65, ⟨M_iin, R_iin, fun _ => true, g_iin⟩), (143, ⟨M_c3, R_c3, p_c3, g_c3⟩), (213, ⟨M_c5, R_c5, p_c5, g_c5⟩)]) (keepOf []) nF
abbrev E_c6 := evFn (X_c6 g_c4 g_iin g_c3 p_c3 g_c5 p_c5) Tryz.f197 R_c6 M_c6
variable {g_c4 g_iin g_c3 p_c3 g_c5 p_c5}
theorem ev_c6 (k : Nat) (x0 : Dm (.imm S_DecDec)) (x1 : Dm (.imm I)) : E_c6 g_c4 g_iin g_c3 p_c3 g_c5 p_c5 k (x0, x1, ()) =
 (bif (bif (g_c4 (x0, ())).1 then false else true) then (some (((0 : Int), (0 : Int)), ())) else (bif (bif (g_iin (x1, ((0 : Int), ((3 : Int), ())))).1 then false else true) then (some (((0 : Int), (0 : Int)), ())) else (bif (decide (x0.2 <= x1)) then (bif (p_c3 ((w64 (x1 - x0.2)), ())) then (some (((w64 (x0.1 * (g_c3 ((w64 (x1 - x0.2)), ())).1)), x1), ())) else none) else (bif (p_c3 ((w64 (x0.2 - x1)), ())) then (bif (p_c5 (x0.1, ((g_c3 ((w64 (x0.2 - x1)), ())).1, ()))) then (some (((g_c5 (x0.1, ((g_c3 ((w64 (x0.2 - x1)), ())).1, ()))).1, x1), ())) else none) else none)))) := by kernel_rfl
theorem S_c6 (h_c4 : C_c4 (fun _ => true) g_c4) (h_iin : C_iin (fun _ => true) g_iin) (h_c3 : C_c3 p_c3 g_c3) (h_c5 : C_c5 p_c5 g_c5) {pre fn} (hev : Hq (E_c6 g_c4 g_iin g_c3 p_c3 g_c5 p_c5) pre fn) : C_c6 pre fn := sound tysOk mixed (fn := Tryz.f197) rfl rfl rfl (.cons h_c4 (.cons h_iin (.cons h_c3 (.cons h_c5 .nil)))) _ hev
end
abbrev M_c7 : Lm := [.imm I]
abbrev R_c7 : Lr := [(.imm, .bool)]
abbrev In_c7 := Iq M_c7
abbrev Out_c7 := Oq R_c7 M_c7
abbrev C_c7 := Cq 220 M_c7 R_c7
abbrev X_c7 : Ctx := ctx tys 6 (conOf []) (keepOf []) nF
abbrev E_c7 := evFn X_c7 Tryz.f220 R_c7 M_c7
theorem ev_c7 (k : Nat) (x0 : Dm (.imm I)) : E_c7 k (x0, ()) =
 (some ((bif (decide (x0 = x0)) then false else true), ())) := by kernel_rfl
theorem S_c7  {pre fn} (hev : Hq E_c7 pre fn) : C_c7 pre fn := sound tysOk mixed (fn := Tryz.f220) rfl rfl rfl ConsOk.nil _ hev
abbrev M_c8 : Lm := [.imm I, .imm I]
abbrev R_c8 : Lr := [(.imm, I)]
abbrev In_c8 := Iq M_c8
abbrev Out_c8 := Oq R_c8 M_c8
abbrev C_c8 := Cq 208 M_c8 R_c8
section
variable (g_c7 : In_c7 -> Out_c7)
abbrev X_c8 : Ctx := ctx tys 20 (conOf [(220, ⟨M_c7, R_c7, fun _ => true, g_c7⟩)]) (keepOf []) nF
abbrev E_c8 := evFn (X_c8 g_c7) Tryz.f208 R_c8 M_c8
variable {g_c7}
theorem ev_c8 (k : Nat) (x0 : Dm (.imm I)) (x1 : Dm (.imm I)) : E_c8 g_c7 k (x0, x1, ()) =
 (bif (g_c7 (x0, ())).1 then (bif (g_c7 (x1, ())).1 then (some ((0 : Int), ())) else (some ((-1 : Int), ()))) else (bif (g_c7 (x1, ())).1 then (some ((1 : Int), ())) else (bif (decide (x0 < x1)) then (some ((-1 : Int), ())) else (bif (decide (x1 < x0)) then (some ((1 : Int), ())) else (some ((0 : Int), ())))))) := by kernel_rfl
theorem S_c8 (h_c7 : C_c7 (fun _ => true) g_c7) {pre fn} (hev : Hq (E_c8 g_c7) pre fn) : C_c8 pre fn := sound tysOk mixed (fn := Tryz.f208) rfl rfl rfl (.cons h_c7 .nil) _ hev
end
abbrev M_c9 : Lm := [.imm S_DecDec, .imm S_DecDec]
abbrev R_c9 : Lr := [(.imm, I)]
abbrev In_c9 := Iq M_c9
abbrev Out_c9 := Oq R_c9 M_c9
abbrev C_c9 := Cq 188 M_c9 R_c9
section
variable (g_c4 : In_c4 -> Out_c4) (g_c6 : In_c6 -> Out_c6) (g_c8 : In_c8 -> Out_c8)
abbrev X_c9 : Ctx := ctx tys 20 (conOf [(75, ⟨M_c4, R_c4, fun _ => true, g_c4⟩), (197, ⟨M_c6, R_c6, fun _ => true, g_c6⟩), (208, ⟨M_c8, R_c8, fun _ => true, g_c8⟩)]) (keepOf []) nF
abbrev E_c9 := evFn (X_c9 g_c4 g_c6 g_c8) Tryz.f188 R_c9 M_c9
variable {g_c4 g_c6 g_c8}
theorem ev_c9 (k : Nat) (x0 : Dm (.imm S_DecDec)) (x1 : Dm (.imm S_DecDec)) : E_c9 g_c4 g_c6 g_c8 k (x0, x1, ()) =
 (bif (bif (g_c4 (x0, ())).1 then false else true) then (some ((0 : Int), ())) else (bif (bif (g_c4 (x1, ())).1 then false else true) then (some ((0 : Int), ())) else (some ((g_c8 ((g_c6 (x0, ((3 : Int), ()))).1.1, ((g_c6 (x1, ((3 : Int), ()))).1.1, ()))).1, ())))) := by kernel_rfl
theorem S_c9 (h_c4 : C_c4 (fun _ => true) g_c4) (h_c6 : C_c6 (fun _ => true) g_c6) (h_c8 : C_c8 (fun _ => true) g_c8) {pre fn} (hev : Hq (E_c9 g_c4 g_c6 g_c8) pre fn) : C_c9 pre fn := sound tysOk mixed (fn := Tryz.f188) rfl rfl rfl (.cons h_c4 (.cons h_c6 (.cons h_c8 .nil))) _ hev
end
abbrev M_ca : Lm := [.imm S_SpcTest]
abbrev R_ca : Lr := [(.imm, .bool)]
abbrev In_ca := Iq M_ca
abbrev Out_ca := Oq R_ca M_ca
abbrev C_ca := Cq 142 M_ca R_ca
section
variable (g_c2 : In_c2 -> Out_c2) (g_c4 : In_c4 -> Out_c4) (g_c9 : In_c9 -> Out_c9) (g_iin : In_iin -> Out_iin)
abbrev X_ca : Ctx := ctx tys 29 (conOf [(76, ⟨M_c2, R_c2, fun _ => true, g_c2⟩), (75, ⟨M_c4, R_c4, fun _ => true, g_c4⟩), (188, ⟨M_c9, R_c9, fun _ => true, g_c9⟩), (65, ⟨M_iin, R_iin, fun _ => true, g_iin⟩)]) (keepOf []) nF
abbrev E_ca := evFn (X_ca g_c2 g_c4 g_c9 g_iin) Tryz.f142 R_ca M_ca
variable {g_c2 g_c4 g_c9 g_iin}
theorem ev_ca (k : Nat) (x0 : Dm (.imm S_SpcTest)) : E_ca g_c2 g_c4 g_c9 g_iin k (x0, ()) =
 (bif (g_c2 (x0.1, ())).1 then (bif (g_c4 (x0.2.1, ())).1 then (bif (g_c4 (x0.2.2.1, ())).1 then (bif (decide ((g_c9 (x0.2.1, (x0.2.2.1, ()))).1 <= (0 : Int))) then (some ((g_iin (x0.2.2.2, ((0 : Int), ((3 : Int), ())))).1, ())) else (some (false, ()))) else (some (false, ()))) else (some (false, ()))) else (some (false, ()))) := by kernel_rfl
theorem S_ca (h_c2 : C_c2 (fun _ => true) g_c2) (h_c4 : C_c4 (fun _ => true) g_c4) (h_c9 : C_c9 (fun _ => true) g_c9) (h_iin : C_iin (fun _ => true) g_iin) {pre fn} (hev : Hq (E_ca g_c2 g_c4 g_c9 g_iin) pre fn) : C_ca pre fn := sound tysOk mixed (fn := Tryz.f142) rfl rfl rfl (.cons h_c2 (.cons h_c4 (.cons h_c9 (.cons h_iin .nil)))) _ hev
end
abbrev M_cb : Lm := [.imm S_DecDec]
abbrev R_cb : Lr := [(.imm, .bool)]
abbrev In_cb := Iq M_cb
abbrev Out_cb := Oq R_cb M_cb
abbrev C_cb := Cq 194 M_cb R_cb
section
variable (g_c4 : In_c4 -> Out_c4)
abbrev X_cb : Ctx := ctx tys 6 (conOf [(75, ⟨M_c4, R_c4, fun _ => true, g_c4⟩)]) (keepOf []) nF
abbrev E_cb := evFn (X_cb g_c4) Tryz.f194 R_cb M_cb
variable {g_c4}
theorem ev_cb (k : Nat) (x0 : Dm (.imm S_DecDec)) : E_cb g_c4 k (x0, ()) =
 (some ((bif (g_c4 (x0, ())).1 then false else true), ())) := by kernel_rfl
theorem S_cb (h_c4 : C_c4 (fun _ => true) g_c4) {pre fn} (hev : Hq (E_cb g_c4) pre fn) : C_cb pre fn := sound tysOk mixed (fn := Tryz.f194) rfl rfl rfl (.cons h_c4 .nil) _ hev
end
abbrev M_cc : Lm := [.imm L_DecDec, .clo 194 []]
abbrev R_cc : Lr := [(.imm, I)]
abbrev In_cc := Iq M_cc
abbrev Out_cc := Oq R_cc M_cc
abbrev C_cc := Cq 211 M_cc R_cc
section
variable (g_cb : In_cb -> Out_cb)
abbrev X_cc : Ctx := ctx tys 19 (conOf [(194, ⟨M_cb, R_cb, fun _ => true, g_cb⟩)]) (keepOf [(pt1, (⟨[(0, .asis), (1, .asis), (7, .asis), (8, .asis)], [], []⟩ : Keep))]) nF
abbrev E_cc := evFn (X_cc g_cb) Tryz.f211 R_cc M_cc
def h0_cc (x0 : Dm (.imm L_DecDec)) (x1 : Dm (.clo 194 [])) (h0 : Dn I) (h1 : Dn I) : St := mkS [(0, (AV.val L_DecDec x0)), (1, (AV.fn 194 [])), (7, (AV.val I h0)), (8, (AV.val I h1))] []
def r_cc := rounds (X_cc g_cb) Tryz.f211 R_cc M_cc
variable {g_cb}
theorem ev_cc (k : Nat) (x0 : Dm (.imm L_DecDec)) (x1 : Dm (.clo 194 [])) : E_cc g_cb k (x0, x1, ()) =
 (r_cc g_cb (x0, x1, ()) k pt1 (h0_cc x0 x1 (List.length x0 : Int) (0 : Int))) := by kernel_rfl
theorem rd0_cc (k : Nat) (x0 : Dm (.imm L_DecDec)) (x1 : Dm (.clo 194 [])) (h0 : Dn I) (h1 : Dn I) : r_cc g_cb (x0, x1, ()) (k + 1) pt1 (h0_cc x0 x1 h0 h1) =
 (bif (decide (h1 < h0)) then (bif (bif (decide ((0 : Int) <= h1)) then (decide (h1 < (List.length x0 : Int))) else false) then (bif (g_cb ((rdL (e := S_DecDec) x0 h1), ())).1 then (some (h1, ())) else (r_cc g_cb (x0, x1, ()) k pt1 (h0_cc x0 x1 h0 (w64 (h1 + (1 : Int)))))) else none) else (some ((-1 : Int), ()))) := by kernel_rfl
theorem S_cc (h_cb : C_cb (fun _ => true) g_cb) {pre fn} (hev : Hq (E_cc g_cb) pre fn) : C_cc pre fn := sound tysOk mixed (fn := Tryz.f211) rfl rfl rfl (.cons h_cb .nil) _ hev
end
abbrev M_cd : Lm := [.imm L_DecDec, .clo 194 []]
abbrev R_cd : Lr := [(.imm, .bool)]
abbrev In_cd := Iq M_cd
abbrev Out_cd := Oq R_cd M_cd
abbrev C_cd := Cq 193 M_cd R_cd
section
variable (g_cc : In_cc -> Out_cc) (p_cc : In_cc -> Bool)
abbrev X_cd : Ctx := ctx tys 9 (conOf [(211, ⟨M_cc, R_cc, p_cc, g_cc⟩)]) (keepOf []) nF
abbrev E_cd := evFn (X_cd g_cc p_cc) Tryz.f193 R_cd M_cd
variable {g_cc p_cc}
theorem ev_cd (k : Nat) (x0 : Dm (.imm L_DecDec)) (x1 : Dm (.clo 194 [])) : E_cd g_cc p_cc k (x0, x1, ()) =
 (bif (p_cc (x0, ((), ()))) then (some ((decide ((0 : Int) <= (g_cc (x0, ((), ()))).1)), ())) else none) := by kernel_rfl
theorem S_cd (h_cc : C_cc p_cc g_cc) {pre fn} (hev : Hq (E_cd g_cc p_cc) pre fn) : C_cd pre fn := sound tysOk mixed (fn := Tryz.f193) rfl rfl rfl (.cons h_cc .nil) _ hev
end
abbrev M_ce : Lm := [.imm L_DecDec]
abbrev R_ce : Lr := [(.imm, .bool)]
abbrev In_ce := Iq M_ce
abbrev Out_ce := Oq R_ce M_ce
abbrev C_ce := Cq 154 M_ce R_ce
section
variable (g_cd : In_cd -> Out_cd) (p_cd : In_cd -> Bool)
abbrev X_ce : Ctx := ctx tys 6 (conOf [(193, ⟨M_cd, R_cd, p_cd, g_cd⟩)]) (keepOf []) nF
abbrev E_ce := evFn (X_ce g_cd p_cd) Tryz.f154 R_ce M_ce
variable {g_cd p_cd}
theorem ev_ce (k : Nat) (x0 : Dm (.imm L_DecDec)) : E_ce g_cd p_cd k (x0, ()) =
 (bif (p_cd (x0, ((), ()))) then (some ((bif (g_cd (x0, ((), ()))).1 then false else true), ())) else none) := by kernel_rfl
theorem S_ce (h_cd : C_cd p_cd g_cd) {pre fn} (hev : Hq (E_ce g_cd p_cd) pre fn) : C_ce pre fn := sound tysOk mixed (fn := Tryz.f154) rfl rfl rfl (.cons h_cd .nil) _ hev
end
abbrev M_cf : Lm := [.imm I]
abbrev R_cf : Lr := [(.imm, I)]
abbrev In_cf := Iq M_cf
abbrev Out_cf := Oq R_cf M_cf
abbrev C_cf := Cq 155 M_cf R_cf
abbrev X_cf : Ctx := ctx tys 8 (conOf []) (keepOf []) nF
abbrev E_cf := evFn X_cf Tryz.f155 R_cf M_cf
theorem ev_cf (k : Nat) (x0 : Dm (.imm I)) : E_cf k (x0, ()) =
 (bif (decide (x0 = (1 : Int))) then (some ((1 : Int), ())) else (bif (decide (x0 = (2 : Int))) then (some ((2 : Int), ())) else (some ((0 : Int), ())))) := by kernel_rfl
theorem S_cf  {pre fn} (hev : Hq E_cf pre fn) : C_cf pre fn := sound tysOk mixed (fn := Tryz.f155) rfl rfl rfl ConsOk.nil _ hev
abbrev M_cg : Lm := [.imm S_SpcTest, .imm S_DecDec]
abbrev R_cg : Lr := [(.imm, .bool)]
abbrev In_cg := Iq M_cg
abbrev Out_cg := Oq R_cg M_cg
abbrev C_cg := Cq 157 M_cg R_cg
section
variable (g_ca : In_ca -> Out_ca) (g_c4 : In_c4 -> Out_c4) (g_c6 : In_c6 -> Out_c6) (g_c9 : In_c9 -> Out_c9)
abbrev X_cg : Ctx := ctx tys 30 (conOf [(142, ⟨M_ca, R_ca, fun _ => true, g_ca⟩), (75, ⟨M_c4, R_c4, fun _ => true, g_c4⟩), (197, ⟨M_c6, R_c6, fun _ => true, g_c6⟩), (188, ⟨M_c9, R_c9, fun _ => true, g_c9⟩)]) (keepOf []) nF
abbrev E_cg := evFn (X_cg g_ca g_c4 g_c6 g_c9) Tryz.f157 R_cg M_cg
variable {g_ca g_c4 g_c6 g_c9}
theorem ev_cg (k : Nat) (x0 : Dm (.imm S_SpcTest)) (x1 : Dm (.imm S_DecDec)) : E_cg g_ca g_c4 g_c6 g_c9 k (x0, x1, ()) =
 (bif (bif (g_ca (x0, ())).1 then false else true) then (some (false, ())) else (bif (bif (g_c4 (x1, ())).1 then false else true) then (some (false, ())) else (bif (decide ((g_c9 (x0.2.1, ((g_c6 (x1, (x0.2.2.2, ()))).1, ()))).1 <= (0 : Int))) then (some ((decide ((g_c9 ((g_c6 (x1, (x0.2.2.2, ()))).1, (x0.2.2.1, ()))).1 <= (0 : Int))), ())) else (some (false, ()))))) := by kernel_rfl
theorem S_cg (h_ca : C_ca (fun _ => true) g_ca) (h_c4 : C_c4 (fun _ => true) g_c4) (h_c6 : C_c6 (fun _ => true) g_c6) (h_c9 : C_c9 (fun _ => true) g_c9) {pre fn} (hev : Hq (E_cg g_ca g_c4 g_c6 g_c9) pre fn) : C_cg pre fn := sound tysOk mixed (fn := Tryz.f157) rfl rfl rfl (.cons h_ca (.cons h_c4 (.cons h_c6 (.cons h_c9 .nil)))) _ hev
end
abbrev M_ch : Lm := [.imm L_DecDec, .imm I]
abbrev R_ch : Lr := [(.imm, S_DecDec)]
abbrev In_ch := Iq M_ch
abbrev Out_ch := Oq R_ch M_ch
abbrev C_ch := Cq 212 M_ch R_ch
section
variable (g_iin : In_iin -> Out_iin) (g_ce : In_ce -> Out_ce) (p_ce : In_ce -> Bool) (g_c6 : In_c6 -> Out_c6) (g_c3 : In_c3 -> Out_c3) (p_c3 : In_c3 -> Bool) (g_c5 : In_c5 -> Out_c5) (p_c5 : In_c5 -> Bool)
abbrev X_ch : Ctx := ctx tys 46 (conOf [(65, ⟨M_iin, R_iin, fun _ => true, g_iin⟩), (154, ⟨M_ce, R_ce, p_ce, g_ce⟩), (197, ⟨M_c6, R_c6, fun _ => true, g_c6⟩), (143, ⟨M_c3, R_c3, p_c3, g_c3⟩), (213, ⟨M_c5, R_c5, p_c5, g_c5⟩)]) (keepOf [(pt2, (⟨[(0, .asis), (1, .asis), (4, .asis), (5, .asis), (23, .asis), (24, .asis), (25, .asis)], [(4, .asis)], []⟩ : Keep))]) nF
abbrev E_ch := evFn (X_ch g_iin g_ce p_ce g_c6 g_c3 p_c3 g_c5 p_c5) Tryz.f212 R_ch M_ch
def h0_ch (x0 : Dm (.imm L_DecDec)) (x1 : Dm (.imm I)) (h0 : Dn I) (h1 : Dn I) (h2 : Dn I) (h3 : Dn S_DecDec) : St := mkS [(0, (AV.val L_DecDec x0)), (1, (AV.val I x1)), (4, (AV.ptr 4 none [])), (5, (AV.val I h0)), (23, (AV.val L_DecDec x0)), (24, (AV.val I h1)), (25, (AV.val I h2))] [(4, (Ob.box S_DecDec (AV.val S_DecDec h3)))]
def r_ch := rounds (X_ch g_iin g_ce p_ce g_c6 g_c3 p_c3 g_c5 p_c5) Tryz.f212 R_ch M_ch
variable {g_iin g_ce p_ce g_c6 g_c3 p_c3 g_c5 p_c5}
theorem ev_ch (k : Nat) (x0 : Dm (.imm L_DecDec)) (x1 : Dm (.imm I)) : E_ch g_iin g_ce p_ce g_c6 g_c3 p_c3 g_c5 p_c5 k (x0, x1, ()) =
 (bif (bif (g_iin ((List.length x0 : Int), ((1 : Int), ((100 : Int), ())))).1 then false else true) then (some (((0 : Int), (0 : Int)), ())) else (bif (p_ce (x0, ())) then (bif (bif (g_ce (x0, ())).1 then false else true) then (some (((0 : Int), (0 : Int)), ())) else (bif (bif (g_iin (x1, ((0 : Int), ((3 : Int), ())))).1 then false else true) then (some (((0 : Int), (0 : Int)), ())) else (r_ch g_iin g_ce p_ce g_c6 g_c3 p_c3 g_c5 p_c5 (x0, x1, ()) k pt2 (h0_ch x0 x1 (0 : Int) (List.length x0 : Int) (0 : Int) ((0 : Int), (0 : Int)))))) else none)) := by kernel_rfl
theorem rd0_ch (k : Nat) (x0 : Dm (.imm L_DecDec)) (x1 : Dm (.imm I)) (h0 : Dn I) (h1 : Dn I) (h2 : Dn I) (h3 : Dn S_DecDec) : r_ch g_iin g_ce p_ce g_c6 g_c3 p_c3 g_c5 p_c5 (x0, x1, ()) (k + 1) pt2 (h0_ch x0 x1 h0 h1 h2 h3) =
 (bif (decide (h2 < h1)) then (bif (bif (decide ((0 : Int) <= h2)) then (decide (h2 < (List.length x0 : Int))) else false) then (r_ch g_iin g_ce p_ce g_c6 g_c3 p_c3 g_c5 p_c5 (x0, x1, ()) k pt2 (h0_ch x0 x1 (w64 (h0 + (g_c6 ((rdL (e := S_DecDec) x0 h2), ((3 : Int), ()))).1.1)) h1 (w64 (h2 + (1 : Int))) h3)) else none) else (bif (p_c3 (x1, ())) then (bif (p_c3 ((3 : Int), ())) then (bif (p_c5 ((w64 (h0 * (g_c3 (x1, ())).1)), ((w64 ((List.length x0 : Int) * (g_c3 ((3 : Int), ())).1)), ()))) then (some (((g_c5 ((w64 (h0 * (g_c3 (x1, ())).1)), ((w64 ((List.length x0 : Int) * (g_c3 ((3 : Int), ())).1)), ()))).1, x1), ())) else none) else none) else none)) := by kernel_rfl
theorem S_ch (h_iin : C_iin (fun _ => true) g_iin) (h_ce : C_ce p_ce g_ce) (h_c6 : C_c6 (fun _ => true) g_c6) (h_c3 : C_c3 p_c3 g_c3) (h_c5 : C_c5 p_c5 g_c5) {pre fn} (hev : Hq (E_ch g_iin g_ce p_ce g_c6 g_c3 p_c3 g_c5 p_c5) pre fn) : C_ch pre fn := sound tysOk mixed (fn := Tryz.f212) rfl rfl rfl (.cons h_iin (.cons h_ce (.cons h_c6 (.cons h_c3 (.cons h_c5 .nil))))) _ hev
end
abbrev M_ci : Lm := [.imm S_TstTest]
abbrev R_ci : Lr := [(.imm, S_DecDec)]
abbrev In_ci := Iq M_ci
abbrev Out_ci := Oq R_ci M_ci
abbrev C_ci := Cq 195 M_ci R_ci
section
variable (g_c6 : In_c6 -> Out_c6) (g_ch : In_ch -> Out_ch) (p_ch : In_ch -> Bool)
abbrev X_ci : Ctx := ctx tys 33 (conOf [(197, ⟨M_c6, R_c6, fun _ => true, g_c6⟩), (212, ⟨M_ch, R_ch, p_ch, g_ch⟩)]) (keepOf []) nF
abbrev E_ci := evFn (X_ci g_c6 g_ch p_ch) Tryz.f195 R_ci M_ci
variable {g_c6 g_ch p_ch}
theorem ev_ci (k : Nat) (x0 : Dm (.imm S_TstTest)) : E_ci g_c6 g_ch p_ch k (x0, ()) =
 (bif (decide (x0.2.2.2.1 = (1 : Int))) then (bif (bif (decide ((0 : Int) <= (0 : Int))) then (decide ((0 : Int) < (List.length x0.2.2.2.2 : Int))) else false) then (some ((g_c6 ((rdL (e := S_DecDec) x0.2.2.2.2 (0 : Int)), (x0.1.2.2.2, ()))).1, ())) else none) else (bif (decide (x0.2.2.2.1 = (2 : Int))) then (bif (fitL [x0.2.2.1] x0.2.2.2.2) then (bif (p_ch ((List.append [x0.2.2.1] x0.2.2.2.2), (x0.1.2.2.2, ()))) then (some ((g_ch ((List.append [x0.2.2.1] x0.2.2.2.2), (x0.1.2.2.2, ()))).1, ())) else none) else none) else (some ((g_c6 (x0.2.2.1, (x0.1.2.2.2, ()))).1, ())))) := by kernel_rfl
theorem S_ci (h_c6 : C_c6 (fun _ => true) g_c6) (h_ch : C_ch p_ch g_ch) {pre fn} (hev : Hq (E_ci g_c6 g_ch p_ch) pre fn) : C_ci pre fn := sound tysOk mixed (fn := Tryz.f195) rfl rfl rfl (.cons h_c6 (.cons h_ch .nil)) _ hev
end
abbrev M_cj : Lm := [.imm S_DecDec, .pR S_TstTest]
abbrev R_cj : Lr := [(.imm, .bool)]
abbrev In_cj := Iq M_cj
abbrev Out_cj := Oq R_cj M_cj
abbrev C_cj := Cq 196 M_cj R_cj
section
variable (g_cg : In_cg -> Out_cg)
abbrev X_cj : Ctx := ctx tys 9 (conOf [(157, ⟨M_cg, R_cg, fun _ => true, g_cg⟩)]) (keepOf []) nF
abbrev E_cj := evFn (X_cj g_cg) Tryz.f196 R_cj M_cj
variable {g_cg}
theorem ev_cj (k : Nat) (x0 : Dm (.imm S_DecDec)) (x1 : Dm (.pR S_TstTest)) : E_cj g_cg k (x0, x1, ()) =
 (some ((bif (g_cg (x1.1, (x0, ()))).1 then false else true), ())) := by kernel_rfl
theorem S_cj (h_cg : C_cg (fun _ => true) g_cg) {pre fn} (hev : Hq (E_cj g_cg) pre fn) : C_cj pre fn := sound tysOk mixed (fn := Tryz.f196) rfl rfl rfl (.cons h_cg .nil) _ hev
end
abbrev M_ck : Lm := [.imm L_DecDec, .clo 196 [S_TstTest]]
abbrev R_ck : Lr := [(.imm, I)]
abbrev In_ck := Iq M_ck
abbrev Out_ck := Oq R_ck M_ck
abbrev C_ck := Cq 211 M_ck R_ck
section
variable (g_cj : In_cj -> Out_cj)
abbrev X_ck : Ctx := ctx tys 19 (conOf [(196, ⟨M_cj, R_cj, fun _ => true, g_cj⟩)]) (keepOf [(pt1, (⟨[(0, .asis), (1, .asis), (7, .asis), (8, .asis)], [(1000005000, .asis)], []⟩ : Keep))]) nF
abbrev E_ck := evFn (X_ck g_cj) Tryz.f211 R_ck M_ck
def h0_ck (x0 : Dm (.imm L_DecDec)) (x1 : Dm (.clo 196 [S_TstTest])) (h0 : Dn I) (h1 : Dn I) : St := mkS [(0, (AV.val L_DecDec x0)), (1, (AV.fn 196 [1000005000])), (7, (AV.val I h0)), (8, (AV.val I h1))] [(1000005000, (Ob.cbox S_TstTest x1.1))]
def r_ck := rounds (X_ck g_cj) Tryz.f211 R_ck M_ck
variable {g_cj}
theorem ev_ck (k : Nat) (x0 : Dm (.imm L_DecDec)) (x1 : Dm (.clo 196 [S_TstTest])) : E_ck g_cj k (x0, x1, ()) =
 (r_ck g_cj (x0, x1, ()) k pt1 (h0_ck x0 x1 (List.length x0 : Int) (0 : Int))) := by kernel_rfl
theorem rd0_ck (k : Nat) (x0 : Dm (.imm L_DecDec)) (x1 : Dm (.clo 196 [S_TstTest])) (h0 : Dn I) (h1 : Dn I) : r_ck g_cj (x0, x1, ()) (k + 1) pt1 (h0_ck x0 x1 h0 h1) =
 (bif (decide (h1 < h0)) then (bif (bif (decide ((0 : Int) <= h1)) then (decide (h1 < (List.length x0 : Int))) else false) then (bif (g_cj ((rdL (e := S_DecDec) x0 h1), (x1.1, ()))).1 then (some (h1, ())) else (r_ck g_cj (x0, x1, ()) k pt1 (h0_ck x0 x1 h0 (w64 (h1 + (1 : Int)))))) else none) else (some ((-1 : Int), ()))) := by kernel_rfl
theorem S_ck (h_cj : C_cj (fun _ => true) g_cj) {pre fn} (hev : Hq (E_ck g_cj) pre fn) : C_ck pre fn := sound tysOk mixed (fn := Tryz.f211) rfl rfl rfl (.cons h_cj .nil) _ hev
end
abbrev M_cl : Lm := [.imm L_DecDec, .clo 196 [S_TstTest]]
abbrev R_cl : Lr := [(.imm, .bool)]
abbrev In_cl := Iq M_cl
abbrev Out_cl := Oq R_cl M_cl
abbrev C_cl := Cq 193 M_cl R_cl
section
variable (g_ck : In_ck -> Out_ck) (p_ck : In_ck -> Bool)
abbrev X_cl : Ctx := ctx tys 9 (conOf [(211, ⟨M_ck, R_ck, p_ck, g_ck⟩)]) (keepOf []) nF
abbrev E_cl := evFn (X_cl g_ck p_ck) Tryz.f193 R_cl M_cl
variable {g_ck p_ck}
theorem ev_cl (k : Nat) (x0 : Dm (.imm L_DecDec)) (x1 : Dm (.clo 196 [S_TstTest])) : E_cl g_ck p_ck k (x0, x1, ()) =
 (bif (p_ck (x0, ((x1.1, ()), ()))) then (some ((decide ((0 : Int) <= (g_ck (x0, ((x1.1, ()), ()))).1)), ())) else none) := by kernel_rfl
theorem S_cl (h_ck : C_ck p_ck g_ck) {pre fn} (hev : Hq (E_cl g_ck p_ck) pre fn) : C_cl pre fn := sound tysOk mixed (fn := Tryz.f193) rfl rfl rfl (.cons h_ck .nil) _ hev
end
abbrev M_cm : Lm := [.imm S_TstTest]
abbrev R_cm : Lr := [(.imm, I)]
abbrev In_cm := Iq M_cm
abbrev Out_cm := Oq R_cm M_cm
abbrev C_cm := Cq 156 M_cm R_cm
section
variable (g_cg : In_cg -> Out_cg) (g_cf : In_cf -> Out_cf) (g_ci : In_ci -> Out_ci) (p_ci : In_ci -> Bool) (g_cl : In_cl -> Out_cl) (p_cl : In_cl -> Bool)
abbrev X_cm : Ctx := ctx tys 45 (conOf [(157, ⟨M_cg, R_cg, fun _ => true, g_cg⟩), (155, ⟨M_cf, R_cf, fun _ => true, g_cf⟩), (195, ⟨M_ci, R_ci, p_ci, g_ci⟩), (193, ⟨M_cl, R_cl, p_cl, g_cl⟩)]) (keepOf []) nF
abbrev E_cm := evFn (X_cm g_cg g_cf g_ci p_ci g_cl p_cl) Tryz.f156 R_cm M_cm
variable {g_cg g_cf g_ci p_ci g_cl p_cl}
theorem ev_cm (k : Nat) (x0 : Dm (.imm S_TstTest)) : E_cm g_cg g_cf g_ci p_ci g_cl p_cl k (x0, ()) =
 (bif (decide (x0.2.2.2.1 = (0 : Int))) then (bif (bif (g_cg (x0.1, (x0.2.2.1, ()))).1 then false else true) then (some ((1 : Int), ())) else (bif (decide (x0.2.2.2.1 = (0 : Int))) then (some ((3 : Int), ())) else (bif (decide ((List.length x0.2.2.2.2 : Int) < (g_cf (x0.2.2.2.1, ())).1)) then (some ((2 : Int), ())) else (bif (bif (decide (x0.2.2.2.1 = (3 : Int))) then false else true) then (bif (p_ci (x0, ())) then (bif (g_cg (x0.1, ((g_ci (x0, ())).1, ()))).1 then (bif (p_cl (x0.2.2.2.2, ((x0, ()), ()))) then (bif (bif (g_cl (x0.2.2.2.2, ((x0, ()), ()))).1 then false else true) then (some ((3 : Int), ())) else (some ((4 : Int), ()))) else none) else (some ((4 : Int), ()))) else none) else (some ((4 : Int), ())))))) else (bif (decide (x0.2.2.2.1 = (0 : Int))) then (some ((3 : Int), ())) else (bif (decide ((List.length x0.2.2.2.2 : Int) < (g_cf (x0.2.2.2.1, ())).1)) then (some ((2 : Int), ())) else (bif (bif (decide (x0.2.2.2.1 = (3 : Int))) then false else true) then (bif (p_ci (x0, ())) then (bif (g_cg (x0.1, ((g_ci (x0, ())).1, ()))).1 then (bif (p_cl (x0.2.2.2.2, ((x0, ()), ()))) then (bif (bif (g_cl (x0.2.2.2.2, ((x0, ()), ()))).1 then false else true) then (some ((3 : Int), ())) else (some ((4 : Int), ()))) else none) else (some ((4 : Int), ()))) else none) else (some ((4 : Int), ())))))) := by kernel_rfl
theorem S_cm (h_cg : C_cg (fun _ => true) g_cg) (h_cf : C_cf (fun _ => true) g_cf) (h_ci : C_ci p_ci g_ci) (h_cl : C_cl p_cl g_cl) {pre fn} (hev : Hq (E_cm g_cg g_cf g_ci p_ci g_cl p_cl) pre fn) : C_cm pre fn := sound tysOk mixed (fn := Tryz.f156) rfl rfl rfl (.cons h_cg (.cons h_cf (.cons h_ci (.cons h_cl .nil)))) _ hev
end
abbrev M_cn : Lm := [.imm S_TstTest]
abbrev R_cn : Lr := [(.imm, .bool)]
abbrev In_cn := Iq M_cn
abbrev Out_cn := Oq R_cn M_cn
abbrev C_cn := Cq 88 M_cn R_cn
section
variable (g_ca : In_ca -> Out_ca) (g_c4 : In_c4 -> Out_c4) (g_ce : In_ce -> Out_ce) (p_ce : In_ce -> Bool) (g_iin : In_iin -> Out_iin) (g_cf : In_cf -> Out_cf) (g_cm : In_cm -> Out_cm) (p_cm : In_cm -> Bool) (g_cg : In_cg -> Out_cg)
abbrev X_cn : Ctx := ctx tys 64 (conOf [(142, ⟨M_ca, R_ca, fun _ => true, g_ca⟩), (75, ⟨M_c4, R_c4, fun _ => true, g_c4⟩), (154, ⟨M_ce, R_ce, p_ce, g_ce⟩), (65, ⟨M_iin, R_iin, fun _ => true, g_iin⟩), (155, ⟨M_cf, R_cf, fun _ => true, g_cf⟩), (156, ⟨M_cm, R_cm, p_cm, g_cm⟩), (157, ⟨M_cg, R_cg, fun _ => true, g_cg⟩)]) (keepOf []) nF
abbrev E_cn := evFn (X_cn g_ca g_c4 g_ce p_ce g_iin g_cf g_cm p_cm g_cg) Tryz.f88 R_cn M_cn
variable {g_ca g_c4 g_ce p_ce g_iin g_cf g_cm p_cm g_cg}
theorem ev_cn (k : Nat) (x0 : Dm (.imm S_TstTest)) : E_cn g_ca g_c4 g_ce p_ce g_iin g_cf g_cm p_cm g_cg k (x0, ()) =
 (bif (bif (g_ca (x0.1, ())).1 then false else true) then (some (false, ())) else (bif (bif (g_c4 (x0.2.2.1, ())).1 then false else true) then (some (false, ())) else (bif (p_ce (x0.2.2.2.2, ())) then (bif (bif (g_ce (x0.2.2.2.2, ())).1 then false else true) then (some (false, ())) else (bif (bif (g_iin (x0.2.2.2.1, ((0 : Int), ((3 : Int), ())))).1 then false else true) then (some (false, ())) else (bif (decide ((g_cf (x0.2.2.2.1, ())).1 < (List.length x0.2.2.2.2 : Int))) then (some (false, ())) else (bif (decide (x0.2.1 = (0 : Int))) then (bif (Sh.beq S_DecDec x0.2.2.1 ((0 : Int), (0 : Int))) then (some ((decide (x0.2.2.2.1 = (0 : Int))), ())) else (some (false, ()))) else (bif (p_cm (x0, ())) then (bif (decide (x0.2.1 = (g_cm (x0, ())).1)) then (bif (decide (x0.2.2.2.1 = (0 : Int))) then (some (true, ())) else (some ((bif (g_cg (x0.1, (x0.2.2.1, ()))).1 then false else true), ()))) else (some (false, ()))) else none))))) else none))) := by kernel_rfl
theorem S_cn (h_ca : C_ca (fun _ => true) g_ca) (h_c4 : C_c4 (fun _ => true) g_c4) (h_ce : C_ce p_ce g_ce) (h_iin : C_iin (fun _ => true) g_iin) (h_cf : C_cf (fun _ => true) g_cf) (h_cm : C_cm p_cm g_cm) (h_cg : C_cg (fun _ => true) g_cg) {pre fn} (hev : Hq (E_cn g_ca g_c4 g_ce p_ce g_iin g_cf g_cm p_cm g_cg) pre fn) : C_cn pre fn := sound tysOk mixed (fn := Tryz.f88) rfl rfl rfl (.cons h_ca (.cons h_c4 (.cons h_ce (.cons h_iin (.cons h_cf (.cons h_cm (.cons h_cg .nil))))))) _ hev
end
abbrev M_co : Lm := [.imm I]
abbrev R_co : Lr := [(.imm, .bool)]
abbrev In_co := Iq M_co
abbrev Out_co := Oq R_co M_co
abbrev C_co := Cq 77 M_co R_co
section
variable (g_iin : In_iin -> Out_iin)
abbrev X_co : Ctx := ctx tys 5 (conOf [(65, ⟨M_iin, R_iin, fun _ => true, g_iin⟩)]) (keepOf []) nF
abbrev E_co := evFn (X_co g_iin) Tryz.f77 R_co M_co
variable {g_iin}
theorem ev_co (k : Nat) (x0 : Dm (.imm I)) : E_co g_iin k (x0, ()) =
 (some ((g_iin (x0, ((1 : Int), ((5 : Int), ())))).1, ())) := by kernel_rfl
theorem S_co (h_iin : C_iin (fun _ => true) g_iin) {pre fn} (hev : Hq (E_co g_iin) pre fn) : C_co pre fn := sound tysOk mixed (fn := Tryz.f77) rfl rfl rfl (.cons h_iin .nil) _ hev
end
abbrev M_cp : Lm := [.imm I]
abbrev R_cp : Lr := [(.imm, .bool)]
abbrev In_cp := Iq M_cp
abbrev Out_cp := Oq R_cp M_cp
abbrev C_cp := Cq 85 M_cp R_cp
abbrev X_cp : Ctx := ctx tys 9 (conOf []) (keepOf []) nF
abbrev E_cp := evFn X_cp Tryz.f85 R_cp M_cp
theorem ev_cp (k : Nat) (x0 : Dm (.imm I)) : E_cp k (x0, ()) =
 (bif (decide (x0 = (2 : Int))) then (some (true, ())) else (some ((decide (x0 = (3 : Int))), ()))) := by kernel_rfl
theorem S_cp  {pre fn} (hev : Hq E_cp pre fn) : C_cp pre fn := sound tysOk mixed (fn := Tryz.f85) rfl rfl rfl ConsOk.nil _ hev
abbrev M_cq : Lm := [.imm S_BatSig]
abbrev R_cq : Lr := [(.imm, .bool)]
abbrev In_cq := Iq M_cq
abbrev Out_cq := Oq R_cq M_cq
abbrev C_cq := Cq 90 M_cq R_cq
section
variable (g_co : In_co -> Out_co) (g_cp : In_cp -> Out_cp) (g_iin : In_iin -> Out_iin)
abbrev X_cq : Ctx := ctx tys 16 (conOf [(77, ⟨M_co, R_co, fun _ => true, g_co⟩), (85, ⟨M_cp, R_cp, fun _ => true, g_cp⟩), (65, ⟨M_iin, R_iin, fun _ => true, g_iin⟩)]) (keepOf []) nF
abbrev E_cq := evFn (X_cq g_co g_cp g_iin) Tryz.f90 R_cq M_cq
variable {g_co g_cp g_iin}
theorem ev_cq (k : Nat) (x0 : Dm (.imm S_BatSig)) : E_cq g_co g_cp g_iin k (x0, ()) =
 (bif (g_co (x0.1, ())).1 then (bif (g_cp (x0.2.1, ())).1 then (some ((g_iin (x0.2.2, ((0 : Int), ((999982 : Int), ())))).1, ())) else (some (false, ()))) else (some (false, ()))) := by kernel_rfl
theorem S_cq (h_co : C_co (fun _ => true) g_co) (h_cp : C_cp (fun _ => true) g_cp) (h_iin : C_iin (fun _ => true) g_iin) {pre fn} (hev : Hq (E_cq g_co g_cp g_iin) pre fn) : C_cq pre fn := sound tysOk mixed (fn := Tryz.f90) rfl rfl rfl (.cons h_co (.cons h_cp (.cons h_iin .nil))) _ hev
end
abbrev M_cr : Lm := [.imm S_BatSig]
abbrev R_cr : Lr := [(.imm, .bool)]
abbrev In_cr := Iq M_cr
abbrev Out_cr := Oq R_cr M_cr
abbrev C_cr := Cq 89 M_cr R_cr
section
variable (g_cq : In_cq -> Out_cq)
abbrev X_cr : Ctx := ctx tys 6 (conOf [(90, ⟨M_cq, R_cq, fun _ => true, g_cq⟩)]) (keepOf []) nF
abbrev E_cr := evFn (X_cr g_cq) Tryz.f89 R_cr M_cr
variable {g_cq}
theorem ev_cr (k : Nat) (x0 : Dm (.imm S_BatSig)) : E_cr g_cq k (x0, ()) =
 (some ((bif (g_cq (x0, ())).1 then false else true), ())) := by kernel_rfl
theorem S_cr (h_cq : C_cq (fun _ => true) g_cq) {pre fn} (hev : Hq (E_cr g_cq) pre fn) : C_cr pre fn := sound tysOk mixed (fn := Tryz.f89) rfl rfl rfl (.cons h_cq .nil) _ hev
end
abbrev M_cs : Lm := [.imm L_BatSig, .clo 89 []]
abbrev R_cs : Lr := [(.imm, I)]
abbrev In_cs := Iq M_cs
abbrev Out_cs := Oq R_cs M_cs
abbrev C_cs := Cq 158 M_cs R_cs
section
variable (g_cr : In_cr -> Out_cr) (p_cr : In_cr -> Bool)
abbrev X_cs : Ctx := ctx tys 19 (conOf [(89, ⟨M_cr, R_cr, p_cr, g_cr⟩)]) (keepOf [(pt1, (⟨[(0, .asis), (1, .asis), (7, .asis), (8, .asis)], [], []⟩ : Keep))]) nF
abbrev E_cs := evFn (X_cs g_cr p_cr) Tryz.f158 R_cs M_cs
def h0_cs (x0 : Dm (.imm L_BatSig)) (x1 : Dm (.clo 89 [])) (h0 : Dn I) (h1 : Dn I) : St := mkS [(0, (AV.val L_BatSig x0)), (1, (AV.fn 89 [])), (7, (AV.val I h0)), (8, (AV.val I h1))] []
def r_cs := rounds (X_cs g_cr p_cr) Tryz.f158 R_cs M_cs
variable {g_cr p_cr}
theorem ev_cs (k : Nat) (x0 : Dm (.imm L_BatSig)) (x1 : Dm (.clo 89 [])) : E_cs g_cr p_cr k (x0, x1, ()) =
 (r_cs g_cr p_cr (x0, x1, ()) k pt1 (h0_cs x0 x1 (List.length x0 : Int) (0 : Int))) := by kernel_rfl
theorem rd0_cs (k : Nat) (x0 : Dm (.imm L_BatSig)) (x1 : Dm (.clo 89 [])) (h0 : Dn I) (h1 : Dn I) : r_cs g_cr p_cr (x0, x1, ()) (k + 1) pt1 (h0_cs x0 x1 h0 h1) =
 (bif (decide (h1 < h0)) then (bif (bif (decide ((0 : Int) <= h1)) then (decide (h1 < (List.length x0 : Int))) else false) then (cl (p_cr ((rdL (e := S_BatSig) x0 h1), ())) (g_cr ((rdL (e := S_BatSig) x0 h1), ())) fun y0 => (bif y0.1 then (some (h1, ())) else (r_cs g_cr p_cr (x0, x1, ()) k pt1 (h0_cs x0 x1 h0 (w64 (h1 + (1 : Int))))))) else none) else (some ((-1 : Int), ()))) := by kernel_rfl
theorem S_cs (h_cr : C_cr p_cr g_cr) {pre fn} (hev : Hq (E_cs g_cr p_cr) pre fn) : C_cs pre fn := sound tysOk mixed (fn := Tryz.f158) rfl rfl rfl (.cons h_cr .nil) _ hev
end
abbrev M_ct : Lm := [.imm L_BatSig, .clo 89 []]
abbrev R_ct : Lr := [(.imm, .bool)]
abbrev In_ct := Iq M_ct
abbrev Out_ct := Oq R_ct M_ct
abbrev C_ct := Cq 91 M_ct R_ct
section
variable (g_cs : In_cs -> Out_cs) (p_cs : In_cs -> Bool)
abbrev X_ct : Ctx := ctx tys 9 (conOf [(158, ⟨M_cs, R_cs, p_cs, g_cs⟩)]) (keepOf []) nF
abbrev E_ct := evFn (X_ct g_cs p_cs) Tryz.f91 R_ct M_ct
variable {g_cs p_cs}
theorem ev_ct (k : Nat) (x0 : Dm (.imm L_BatSig)) (x1 : Dm (.clo 89 [])) : E_ct g_cs p_cs k (x0, x1, ()) =
 (cl (p_cs (x0, ((), ()))) (g_cs (x0, ((), ()))) fun y0 => (some ((decide ((0 : Int) <= y0.1)), ()))) := by kernel_rfl
theorem S_ct (h_cs : C_cs p_cs g_cs) {pre fn} (hev : Hq (E_ct g_cs p_cs) pre fn) : C_ct pre fn := sound tysOk mixed (fn := Tryz.f91) rfl rfl rfl (.cons h_cs .nil) _ hev
end
abbrev M_cu : Lm := [.imm S_TstTest]
abbrev R_cu : Lr := [(.imm, .bool)]
abbrev In_cu := Iq M_cu
abbrev Out_cu := Oq R_cu M_cu
abbrev C_cu := Cq 144 M_cu R_cu
abbrev X_cu : Ctx := ctx tys 6 (conOf []) (keepOf []) nF
abbrev E_cu := evFn X_cu Tryz.f144 R_cu M_cu
theorem ev_cu (k : Nat) (x0 : Dm (.imm S_TstTest)) : E_cu k (x0, ()) =
 (some ((bif (decide (x0.2.1 = (3 : Int))) then false else true), ())) := by kernel_rfl
theorem S_cu  {pre fn} (hev : Hq E_cu pre fn) : C_cu pre fn := sound tysOk mixed (fn := Tryz.f144) rfl rfl rfl ConsOk.nil _ hev
abbrev M_cv : Lm := [.imm L_TstTest, .clo 144 []]
abbrev R_cv : Lr := [(.imm, I)]
abbrev In_cv := Iq M_cv
abbrev Out_cv := Oq R_cv M_cv
abbrev C_cv := Cq 96 M_cv R_cv
section
variable (g_cu : In_cu -> Out_cu)
abbrev X_cv : Ctx := ctx tys 19 (conOf [(144, ⟨M_cu, R_cu, fun _ => true, g_cu⟩)]) (keepOf [(pt1, (⟨[(0, .asis), (1, .asis), (7, .asis), (8, .asis)], [], []⟩ : Keep))]) nF
abbrev E_cv := evFn (X_cv g_cu) Tryz.f96 R_cv M_cv
def h0_cv (x0 : Dm (.imm L_TstTest)) (x1 : Dm (.clo 144 [])) (h0 : Dn I) (h1 : Dn I) : St := mkS [(0, (AV.val L_TstTest x0)), (1, (AV.fn 144 [])), (7, (AV.val I h0)), (8, (AV.val I h1))] []
def r_cv := rounds (X_cv g_cu) Tryz.f96 R_cv M_cv
variable {g_cu}
theorem ev_cv (k : Nat) (x0 : Dm (.imm L_TstTest)) (x1 : Dm (.clo 144 [])) : E_cv g_cu k (x0, x1, ()) =
 (r_cv g_cu (x0, x1, ()) k pt1 (h0_cv x0 x1 (List.length x0 : Int) (0 : Int))) := by kernel_rfl
theorem rd0_cv (k : Nat) (x0 : Dm (.imm L_TstTest)) (x1 : Dm (.clo 144 [])) (h0 : Dn I) (h1 : Dn I) : r_cv g_cu (x0, x1, ()) (k + 1) pt1 (h0_cv x0 x1 h0 h1) =
 (bif (decide (h1 < h0)) then (bif (bif (decide ((0 : Int) <= h1)) then (decide (h1 < (List.length x0 : Int))) else false) then (bif (g_cu ((rdL (e := S_TstTest) x0 h1), ())).1 then (some (h1, ())) else (r_cv g_cu (x0, x1, ()) k pt1 (h0_cv x0 x1 h0 (w64 (h1 + (1 : Int)))))) else none) else (some ((-1 : Int), ()))) := by kernel_rfl
theorem S_cv (h_cu : C_cu (fun _ => true) g_cu) {pre fn} (hev : Hq (E_cv g_cu) pre fn) : C_cv pre fn := sound tysOk mixed (fn := Tryz.f96) rfl rfl rfl (.cons h_cu .nil) _ hev
end
end
end Go.Proofs.YtddpemilmeijfaaGreat
