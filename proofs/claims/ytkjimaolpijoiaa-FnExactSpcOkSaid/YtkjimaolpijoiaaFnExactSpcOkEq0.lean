/- The functions of the seat, evaluated: equations, checked by the kernel. Made by a program. -/
import Derived.Test.YtkjimaolpijoiaaVm31
import Derived.Test.YtkjimaolpijoiaaProg
import Derived.KernelRfl
set_option linter.unusedVariables false
set_option maxRecDepth 100000
namespace Go.Proofs.Ytkjimaolpijoiaa
open Go.Vm
abbrev I : Sh := (.int .i64)
abbrev U8 : Sh := (.int .u8)
abbrev L_u8 : Sh := (.sl 5 U8)
abbrev L_int : Sh := (.sl 3 I)
abbrev S_runtime_errorAddressString : Sh := (.pair .str (.int .u64))
abbrev S_DecDec : Sh := (.pair I I)
abbrev S_sl20Rd : Sh := (.pair L_u8 I)
abbrev L_DecDec : Sh := (.sl 27 S_DecDec)
abbrev L_lDecDec : Sh := (.sl 23 S_DecDec)
abbrev S_DayDay : Sh := (.pair I S_DecDec)
abbrev S_runtime_boundsError : Sh := (.pair I (.pair I (.pair .bool U8)))
abbrev S_SpcTest : Sh := (.pair I (.pair S_DecDec (.pair S_DecDec I)))
abbrev L_SpcTest : Sh := (.sl 29 S_SpcTest)
abbrev L_lSpcTest : Sh := (.sl 25 S_SpcTest)
abbrev S_SpcSpec : Sh := (.pair L_SpcTest I)
abbrev S_lSpcSpec : Sh := (.pair L_lSpcTest I)
abbrev L_SpcSpec : Sh := (.sl 85 S_SpcSpec)
abbrev L_lSpcSpec : Sh := (.sl 116 S_lSpcSpec)
abbrev S_CerCer : Sh := (.pair I (.pair L_SpcTest (.pair L_DecDec S_DecDec)))
abbrev S_lCerCer : Sh := (.pair I (.pair L_lSpcTest (.pair L_lDecDec S_DecDec)))
abbrev S_TstTest : Sh := (.pair S_SpcTest (.pair I (.pair S_DecDec (.pair I L_DecDec))))
abbrev S_lTstTest : Sh := (.pair S_SpcTest (.pair I (.pair S_DecDec (.pair I L_lDecDec))))
def tys : List (Nat × Sh × Nat) := [(2, I, 0), (3, I, 0), (4, .bool, 0), (5, U8, 0), (6, U8, 0), (7, S_runtime_boundsError, 4), (8, S_runtime_boundsError, 4), (9, .str, 0), (10, .str, 0), (11, .str, 0), (12, (.int .u64), 0), (13, S_runtime_errorAddressString, 2), (14, S_runtime_errorAddressString, 2), (21, (.int .i32), 0), (22, S_DecDec, 2), (23, S_DecDec, 2), (24, S_SpcTest, 4), (25, S_SpcTest, 4), (27, S_DecDec, 2), (28, S_SpcTest, 4), (29, S_SpcTest, 4), (33, L_lSpcTest, 0), (36, L_SpcTest, 0), (40, L_u8, 0), (52, L_DecDec, 0), (53, S_TstTest, 5), (54, S_TstTest, 5), (63, L_lSpcSpec, 0), (66, L_SpcSpec, 0), (70, L_lDecDec, 0), (71, S_lCerCer, 5), (72, S_lCerCer, 5), (75, S_CerCer, 5), (76, S_CerCer, 5), (84, S_SpcSpec, 2), (85, S_SpcSpec, 2), (90, S_lTstTest, 5), (91, S_lTstTest, 5), (104, L_int, 0), (107, S_DayDay, 3), (108, S_DayDay, 3), (115, S_lSpcSpec, 2), (116, S_lSpcSpec, 2), (129, S_sl20Rd, 2), (130, S_sl20Rd, 2), (141, (.int .u32), 0), (142, U8, 0), (143, U8, 0), (146, (.int .i32), 0), (147, (.int .i32), 0)]
theorem tysOk : tyChk Try.prog (ctx tys 0 (fun _ => []) (fun _ => ⟨[], [], []⟩) fun _ => []) tys = true := by kernel_rfl
theorem mixed : Try.prog.follows .mixedOrders = true := by kernel_rfl
/-! lszSpcTestS -/
abbrev In_lszSpcTestS : Type := (insSh [.imm L_lSpcTest, .imm I]).den
abbrev Out_lszSpcTestS : Type := (outSh [(.imm, I)] [.imm L_lSpcTest, .imm I]).den
abbrev K_lszSpcTestS (pre : In_lszSpcTestS → Bool) (fn : In_lszSpcTestS → Out_lszSpcTestS) : Con := ⟨[.imm L_lSpcTest, .imm I], [(.imm, I)], pre, fn⟩
abbrev C_lszSpcTestS (pre : In_lszSpcTestS → Bool) (fn : In_lszSpcTestS → Out_lszSpcTestS) : Prop := Sound Try.prog 18 (K_lszSpcTestS pre fn)
abbrev X_lszSpcTestS  : Ctx := ctx tys 12 (conOf []) (keepOf []) (fun _ => [])
noncomputable abbrev E_lszSpcTestS  (k : Nat) (x : In_lszSpcTestS) : Option Out_lszSpcTestS := evFn X_lszSpcTestS Try.f18 [(.imm, I)] [.imm L_lSpcTest, .imm I] k x
theorem ev_lszSpcTestS (k : Nat)  (x0 : (Mode.inSh (.imm L_lSpcTest)).den) (x1 : (Mode.inSh (.imm I)).den) : E_lszSpcTestS k (x0, x1, ()) =
  (bif (decide ((w64 (x1 - ((List.length x0 : Int)))) < (0 : Int))) then (some ((-1 : Int), ())) else (some ((w64 (x1 - ((List.length x0 : Int)))), ()))) := by kernel_rfl
theorem S_lszSpcTestS   {pre : In_lszSpcTestS → Bool} {fn : In_lszSpcTestS → Out_lszSpcTestS} (hev : ∀ x, pre x = true → ∃ k, E_lszSpcTestS k x = some (fn x)) : C_lszSpcTestS pre fn := sound tysOk mixed (fn := Try.f18) rfl rfl rfl ConsOk.nil _ hev
/-! lszSpcSpec -/
abbrev In_lszSpcSpec : Type := (insSh [.imm S_lSpcSpec, .imm I]).den
abbrev Out_lszSpcSpec : Type := (outSh [(.imm, I)] [.imm S_lSpcSpec, .imm I]).den
abbrev K_lszSpcSpec (pre : In_lszSpcSpec → Bool) (fn : In_lszSpcSpec → Out_lszSpcSpec) : Con := ⟨[.imm S_lSpcSpec, .imm I], [(.imm, I)], pre, fn⟩
abbrev C_lszSpcSpec (pre : In_lszSpcSpec → Bool) (fn : In_lszSpcSpec → Out_lszSpcSpec) : Prop := Sound Try.prog 89 (K_lszSpcSpec pre fn)
abbrev X_lszSpcSpec (g_lszSpcTestS : In_lszSpcTestS → Out_lszSpcTestS) (p_lszSpcTestS : In_lszSpcTestS → Bool) : Ctx := ctx tys 12 (conOf [(18, K_lszSpcTestS p_lszSpcTestS g_lszSpcTestS)]) (keepOf []) (fun _ => [])
noncomputable abbrev E_lszSpcSpec (g_lszSpcTestS : In_lszSpcTestS → Out_lszSpcTestS) (p_lszSpcTestS : In_lszSpcTestS → Bool) (k : Nat) (x : In_lszSpcSpec) : Option Out_lszSpcSpec := evFn (X_lszSpcSpec g_lszSpcTestS p_lszSpcTestS) Try.f89 [(.imm, I)] [.imm S_lSpcSpec, .imm I] k x
theorem ev_lszSpcSpec (k : Nat) {g_lszSpcTestS : In_lszSpcTestS → Out_lszSpcTestS} {p_lszSpcTestS : In_lszSpcTestS → Bool} (x0 : (Mode.inSh (.imm S_lSpcSpec)).den) (x1 : (Mode.inSh (.imm I)).den) : E_lszSpcSpec g_lszSpcTestS p_lszSpcTestS k (x0, x1, ()) =
  (bif (p_lszSpcTestS (x0.1, (x1, ()))) then (bif (decide ((g_lszSpcTestS (x0.1, (x1, ()))).1 < (0 : Int))) then (some ((-1 : Int), ())) else (some ((g_lszSpcTestS (x0.1, (x1, ()))).1, ()))) else none) := by kernel_rfl
theorem S_lszSpcSpec {g_lszSpcTestS : In_lszSpcTestS → Out_lszSpcTestS} {p_lszSpcTestS : In_lszSpcTestS → Bool} (h_lszSpcTestS : C_lszSpcTestS p_lszSpcTestS g_lszSpcTestS) {pre : In_lszSpcSpec → Bool} {fn : In_lszSpcSpec → Out_lszSpcSpec} (hev : ∀ x, pre x = true → ∃ k, E_lszSpcSpec g_lszSpcTestS p_lszSpcTestS k x = some (fn x)) : C_lszSpcSpec pre fn := sound tysOk mixed (fn := Try.f89) rfl rfl rfl (ConsOk.cons h_lszSpcTestS ConsOk.nil) _ hev
/-! lszSpcSpecS -/
abbrev In_lszSpcSpecS : Type := (insSh [.imm L_lSpcSpec, .imm I]).den
abbrev Out_lszSpcSpecS : Type := (outSh [(.imm, I)] [.imm L_lSpcSpec, .imm I]).den
abbrev K_lszSpcSpecS (pre : In_lszSpcSpecS → Bool) (fn : In_lszSpcSpecS → Out_lszSpcSpecS) : Con := ⟨[.imm L_lSpcSpec, .imm I], [(.imm, I)], pre, fn⟩
abbrev C_lszSpcSpecS (pre : In_lszSpcSpecS → Bool) (fn : In_lszSpcSpecS → Out_lszSpcSpecS) : Prop := Sound Try.prog 39 (K_lszSpcSpecS pre fn)
abbrev X_lszSpcSpecS (g_lszSpcSpec : In_lszSpcSpec → Out_lszSpcSpec) (p_lszSpcSpec : In_lszSpcSpec → Bool) : Ctx := ctx tys 27 (conOf [(89, K_lszSpcSpec p_lszSpcSpec g_lszSpcSpec)]) (keepOf [([false, true, false, true, true, true], (⟨[(0, .asis), (1, .asis), (5, .asis)], [], []⟩ : Keep))]) (fun _ => [])
noncomputable abbrev E_lszSpcSpecS (g_lszSpcSpec : In_lszSpcSpec → Out_lszSpcSpec) (p_lszSpcSpec : In_lszSpcSpec → Bool) (k : Nat) (x : In_lszSpcSpecS) : Option Out_lszSpcSpecS := evFn (X_lszSpcSpecS g_lszSpcSpec p_lszSpcSpec) Try.f39 [(.imm, I)] [.imm L_lSpcSpec, .imm I] k x
def h0_lszSpcSpecS (x0 : (Mode.inSh (.imm L_lSpcSpec)).den) (x1 : (Mode.inSh (.imm I)).den) (h0 : (Sh.den I)) (h1 : (Sh.den I)) : St := (St.mk (updL (fun _ => .unk) [(0, (AV.val L_lSpcSpec x0)), (1, (AV.val I h0)), (5, (AV.val I h1))]) (updL (fun _ => .none) []))
noncomputable def r_lszSpcSpecS (g_lszSpcSpec : In_lszSpcSpec → Out_lszSpcSpec) (p_lszSpcSpec : In_lszSpcSpec → Bool) (x : In_lszSpcSpecS) (k : Nat) (p : List Bool) (s : St) : Option Out_lszSpcSpecS := rounds (X_lszSpcSpecS g_lszSpcSpec p_lszSpcSpec) Try.f39 [(.imm, I)] [.imm L_lSpcSpec, .imm I] x k p s
theorem ev_lszSpcSpecS (k : Nat) {g_lszSpcSpec : In_lszSpcSpec → Out_lszSpcSpec} {p_lszSpcSpec : In_lszSpcSpec → Bool} (x0 : (Mode.inSh (.imm L_lSpcSpec)).den) (x1 : (Mode.inSh (.imm I)).den) : E_lszSpcSpecS g_lszSpcSpec p_lszSpcSpec k (x0, x1, ()) =
  (bif (decide ((w64 (x1 - ((List.length x0 : Int)))) < (0 : Int))) then (some ((-1 : Int), ())) else (r_lszSpcSpecS g_lszSpcSpec p_lszSpcSpec (x0, x1, ()) k [false, true, false, true, true, true] (h0_lszSpcSpecS x0 x1 (w64 (x1 - ((List.length x0 : Int)))) (0 : Int)))) := by kernel_rfl
theorem rd0_lszSpcSpecS (k : Nat) {g_lszSpcSpec : In_lszSpcSpec → Out_lszSpcSpec} {p_lszSpcSpec : In_lszSpcSpec → Bool} (x0 : (Mode.inSh (.imm L_lSpcSpec)).den) (x1 : (Mode.inSh (.imm I)).den) (h0 : (Sh.den I)) (h1 : (Sh.den I)) : r_lszSpcSpecS g_lszSpcSpec p_lszSpcSpec (x0, x1, ()) (k + 1) [false, true, false, true, true, true] (h0_lszSpcSpecS x0 x1 h0 h1) =
  (bif (decide (h1 < ((List.length x0 : Int)))) then (bif (bif (decide ((0 : Int) ≤ h1)) then (decide (h1 < ((List.length x0 : Int)))) else false) then (bif (p_lszSpcSpec ((rdL (e := S_lSpcSpec) x0 h1), (h0, ()))) then (bif (decide ((g_lszSpcSpec ((rdL (e := S_lSpcSpec) x0 h1), (h0, ()))).1 < (0 : Int))) then (some ((-1 : Int), ())) else (r_lszSpcSpecS g_lszSpcSpec p_lszSpcSpec (x0, x1, ()) k [false, true, false, true, true, true] (h0_lszSpcSpecS x0 x1 ((g_lszSpcSpec ((rdL (e := S_lSpcSpec) x0 h1), (h0, ()))).1) (w64 (h1 + (1 : Int)))))) else none) else none) else (some (h0, ()))) := by kernel_rfl
theorem S_lszSpcSpecS {g_lszSpcSpec : In_lszSpcSpec → Out_lszSpcSpec} {p_lszSpcSpec : In_lszSpcSpec → Bool} (h_lszSpcSpec : C_lszSpcSpec p_lszSpcSpec g_lszSpcSpec) {pre : In_lszSpcSpecS → Bool} {fn : In_lszSpcSpecS → Out_lszSpcSpecS} (hev : ∀ x, pre x = true → ∃ k, E_lszSpcSpecS g_lszSpcSpec p_lszSpcSpec k x = some (fn x)) : C_lszSpcSpecS pre fn := sound tysOk mixed (fn := Try.f39) rfl rfl rfl (ConsOk.cons h_lszSpcSpec ConsOk.nil) _ hev
/-! ltoDecDec -/
abbrev In_ltoDecDec : Type := (insSh [.imm S_DecDec]).den
abbrev Out_ltoDecDec : Type := (outSh [(.imm, S_DecDec)] [.imm S_DecDec]).den
abbrev K_ltoDecDec (pre : In_ltoDecDec → Bool) (fn : In_ltoDecDec → Out_ltoDecDec) : Con := ⟨[.imm S_DecDec], [(.imm, S_DecDec)], pre, fn⟩
abbrev C_ltoDecDec (pre : In_ltoDecDec → Bool) (fn : In_ltoDecDec → Out_ltoDecDec) : Prop := Sound Try.prog 16 (K_ltoDecDec pre fn)
abbrev X_ltoDecDec  : Ctx := ctx tys 11 (conOf []) (keepOf []) (fun _ => [])
noncomputable abbrev E_ltoDecDec  (k : Nat) (x : In_ltoDecDec) : Option Out_ltoDecDec := evFn X_ltoDecDec Try.f16 [(.imm, S_DecDec)] [.imm S_DecDec] k x
theorem ev_ltoDecDec (k : Nat)  (x0 : (Mode.inSh (.imm S_DecDec)).den) : E_ltoDecDec k (x0, ()) =
  (some ((x0.1, x0.2), ())) := by kernel_rfl
theorem S_ltoDecDec   {pre : In_ltoDecDec → Bool} {fn : In_ltoDecDec → Out_ltoDecDec} (hev : ∀ x, pre x = true → ∃ k, E_ltoDecDec k x = some (fn x)) : C_ltoDecDec pre fn := sound tysOk mixed (fn := Try.f16) rfl rfl rfl ConsOk.nil _ hev
/-! ltoSpcTest -/
abbrev In_ltoSpcTest : Type := (insSh [.imm S_SpcTest]).den
abbrev Out_ltoSpcTest : Type := (outSh [(.imm, S_SpcTest)] [.imm S_SpcTest]).den
abbrev K_ltoSpcTest (pre : In_ltoSpcTest → Bool) (fn : In_ltoSpcTest → Out_ltoSpcTest) : Con := ⟨[.imm S_SpcTest], [(.imm, S_SpcTest)], pre, fn⟩
abbrev C_ltoSpcTest (pre : In_ltoSpcTest → Bool) (fn : In_ltoSpcTest → Out_ltoSpcTest) : Prop := Sound Try.prog 15 (K_ltoSpcTest pre fn)
abbrev X_ltoSpcTest (g_ltoDecDec : In_ltoDecDec → Out_ltoDecDec) : Ctx := ctx tys 19 (conOf [(16, K_ltoDecDec (fun _ => true) g_ltoDecDec)]) (keepOf []) (fun _ => [])
noncomputable abbrev E_ltoSpcTest (g_ltoDecDec : In_ltoDecDec → Out_ltoDecDec) (k : Nat) (x : In_ltoSpcTest) : Option Out_ltoSpcTest := evFn (X_ltoSpcTest g_ltoDecDec) Try.f15 [(.imm, S_SpcTest)] [.imm S_SpcTest] k x
theorem ev_ltoSpcTest (k : Nat) {g_ltoDecDec : In_ltoDecDec → Out_ltoDecDec} (x0 : (Mode.inSh (.imm S_SpcTest)).den) : E_ltoSpcTest g_ltoDecDec k (x0, ()) =
  (some ((x0.1, ((g_ltoDecDec (x0.2.1, ())).1, ((g_ltoDecDec (x0.2.2.1, ())).1, x0.2.2.2))), ())) := by kernel_rfl
theorem S_ltoSpcTest {g_ltoDecDec : In_ltoDecDec → Out_ltoDecDec} (h_ltoDecDec : C_ltoDecDec (fun _ => true) g_ltoDecDec) {pre : In_ltoSpcTest → Bool} {fn : In_ltoSpcTest → Out_ltoSpcTest} (hev : ∀ x, pre x = true → ∃ k, E_ltoSpcTest g_ltoDecDec k x = some (fn x)) : C_ltoSpcTest pre fn := sound tysOk mixed (fn := Try.f15) rfl rfl rfl (ConsOk.cons h_ltoDecDec ConsOk.nil) _ hev
/-! ltoSpcTestS -/
abbrev In_ltoSpcTestS : Type := (insSh [.imm L_lSpcTest]).den
abbrev Out_ltoSpcTestS : Type := (outSh [(.own, L_SpcTest)] [.imm L_lSpcTest]).den
abbrev K_ltoSpcTestS (pre : In_ltoSpcTestS → Bool) (fn : In_ltoSpcTestS → Out_ltoSpcTestS) : Con := ⟨[.imm L_lSpcTest], [(.own, L_SpcTest)], pre, fn⟩
abbrev C_ltoSpcTestS (pre : In_ltoSpcTestS → Bool) (fn : In_ltoSpcTestS → Out_ltoSpcTestS) : Prop := Sound Try.prog 20 (K_ltoSpcTestS pre fn)
abbrev X_ltoSpcTestS (g_ltoSpcTest : In_ltoSpcTest → Out_ltoSpcTest) : Ctx := ctx tys 23 (conOf [(15, K_ltoSpcTest (fun _ => true) g_ltoSpcTest)]) (keepOf [([false, true, false, true, true], (⟨[(0, .asis), (3, .own), (4, .asis)], [], []⟩ : Keep))]) (fun _ => [])
noncomputable abbrev E_ltoSpcTestS (g_ltoSpcTest : In_ltoSpcTest → Out_ltoSpcTest) (k : Nat) (x : In_ltoSpcTestS) : Option Out_ltoSpcTestS := evFn (X_ltoSpcTestS g_ltoSpcTest) Try.f20 [(.own, L_SpcTest)] [.imm L_lSpcTest] k x
def h0_ltoSpcTestS (x0 : (Mode.inSh (.imm L_lSpcTest)).den) (h0 : (Sh.den I)) (h1 : (List (Sh.den S_SpcTest))) : St := (St.mk (updL (fun _ => .unk) [(0, (AV.val L_lSpcTest x0)), (3, (AV.sref 2503 none [])), (4, (AV.val I h0))]) (updL (fun _ => .none) [(2503, (Ob.arr 29 S_SpcTest h1))]))
noncomputable def r_ltoSpcTestS (g_ltoSpcTest : In_ltoSpcTest → Out_ltoSpcTest) (x : In_ltoSpcTestS) (k : Nat) (p : List Bool) (s : St) : Option Out_ltoSpcTestS := rounds (X_ltoSpcTestS g_ltoSpcTest) Try.f20 [(.own, L_SpcTest)] [.imm L_lSpcTest] x k p s
theorem ev_ltoSpcTestS (k : Nat) {g_ltoSpcTest : In_ltoSpcTest → Out_ltoSpcTest} (x0 : (Mode.inSh (.imm L_lSpcTest)).den) : E_ltoSpcTestS g_ltoSpcTest k (x0, ()) =
  (bif (bif (bif (decide ((0 : Int) ≤ ((List.length x0 : Int)))) then (decide (((List.length x0 : Int)) ≤ (BIG : Int))) else false) then (decide (((List.length x0 : Int)) = ((List.length x0 : Int)))) else false) then (r_ltoSpcTestS g_ltoSpcTest (x0, ()) k [false, true, false, true, true] (h0_ltoSpcTestS x0 (0 : Int) (List.replicate (Int.toNat ((List.length x0 : Int))) ((0 : Int), (((0 : Int), (0 : Int)), (((0 : Int), (0 : Int)), (0 : Int))))))) else none) := by kernel_rfl
theorem rd0_ltoSpcTestS (k : Nat) {g_ltoSpcTest : In_ltoSpcTest → Out_ltoSpcTest} (x0 : (Mode.inSh (.imm L_lSpcTest)).den) (h0 : (Sh.den I)) (h1 : (List (Sh.den S_SpcTest))) : r_ltoSpcTestS g_ltoSpcTest (x0, ()) (k + 1) [false, true, false, true, true] (h0_ltoSpcTestS x0 h0 h1) =
  (bif (decide (h0 < ((List.length x0 : Int)))) then (bif (bif (decide ((0 : Int) ≤ h0)) then (decide (h0 < ((List.length x0 : Int)))) else false) then (bif (bif (decide ((0 : Int) ≤ h0)) then (decide (h0 < ((List.length h1 : Int)))) else false) then (r_ltoSpcTestS g_ltoSpcTest (x0, ()) k [false, true, false, true, true] (h0_ltoSpcTestS x0 (w64 (h0 + (1 : Int))) (List.set h1 (Int.toNat h0) (g_ltoSpcTest ((rdL (e := S_SpcTest) x0 h0), ())).1))) else none) else none) else (some (h1, ()))) := by kernel_rfl
theorem S_ltoSpcTestS {g_ltoSpcTest : In_ltoSpcTest → Out_ltoSpcTest} (h_ltoSpcTest : C_ltoSpcTest (fun _ => true) g_ltoSpcTest) {pre : In_ltoSpcTestS → Bool} {fn : In_ltoSpcTestS → Out_ltoSpcTestS} (hev : ∀ x, pre x = true → ∃ k, E_ltoSpcTestS g_ltoSpcTest k x = some (fn x)) : C_ltoSpcTestS pre fn := sound tysOk mixed (fn := Try.f20) rfl rfl rfl (ConsOk.cons h_ltoSpcTest ConsOk.nil) _ hev
/-! ltoSpcSpec -/
abbrev In_ltoSpcSpec : Type := (insSh [.imm S_lSpcSpec]).den
abbrev Out_ltoSpcSpec : Type := (outSh [(.own, S_SpcSpec)] [.imm S_lSpcSpec]).den
abbrev K_ltoSpcSpec (pre : In_ltoSpcSpec → Bool) (fn : In_ltoSpcSpec → Out_ltoSpcSpec) : Con := ⟨[.imm S_lSpcSpec], [(.own, S_SpcSpec)], pre, fn⟩
abbrev C_ltoSpcSpec (pre : In_ltoSpcSpec → Bool) (fn : In_ltoSpcSpec → Out_ltoSpcSpec) : Prop := Sound Try.prog 90 (K_ltoSpcSpec pre fn)
abbrev X_ltoSpcSpec (g_ltoSpcTestS : In_ltoSpcTestS → Out_ltoSpcTestS) (p_ltoSpcTestS : In_ltoSpcTestS → Bool) : Ctx := ctx tys 12 (conOf [(20, K_ltoSpcTestS p_ltoSpcTestS g_ltoSpcTestS)]) (keepOf []) (fun _ => [])
noncomputable abbrev E_ltoSpcSpec (g_ltoSpcTestS : In_ltoSpcTestS → Out_ltoSpcTestS) (p_ltoSpcTestS : In_ltoSpcTestS → Bool) (k : Nat) (x : In_ltoSpcSpec) : Option Out_ltoSpcSpec := evFn (X_ltoSpcSpec g_ltoSpcTestS p_ltoSpcTestS) Try.f90 [(.own, S_SpcSpec)] [.imm S_lSpcSpec] k x
theorem ev_ltoSpcSpec (k : Nat) {g_ltoSpcTestS : In_ltoSpcTestS → Out_ltoSpcTestS} {p_ltoSpcTestS : In_ltoSpcTestS → Bool} (x0 : (Mode.inSh (.imm S_lSpcSpec)).den) : E_ltoSpcSpec g_ltoSpcTestS p_ltoSpcTestS k (x0, ()) =
  (bif (p_ltoSpcTestS (x0.1, ())) then (some (((g_ltoSpcTestS (x0.1, ())).1, x0.2), ())) else none) := by kernel_rfl
theorem S_ltoSpcSpec {g_ltoSpcTestS : In_ltoSpcTestS → Out_ltoSpcTestS} {p_ltoSpcTestS : In_ltoSpcTestS → Bool} (h_ltoSpcTestS : C_ltoSpcTestS p_ltoSpcTestS g_ltoSpcTestS) {pre : In_ltoSpcSpec → Bool} {fn : In_ltoSpcSpec → Out_ltoSpcSpec} (hev : ∀ x, pre x = true → ∃ k, E_ltoSpcSpec g_ltoSpcTestS p_ltoSpcTestS k x = some (fn x)) : C_ltoSpcSpec pre fn := sound tysOk mixed (fn := Try.f90) rfl rfl rfl (ConsOk.cons h_ltoSpcTestS ConsOk.nil) _ hev
/-! ltoSpcSpecS -/
abbrev In_ltoSpcSpecS : Type := (insSh [.imm L_lSpcSpec]).den
abbrev Out_ltoSpcSpecS : Type := (outSh [(.own, L_SpcSpec)] [.imm L_lSpcSpec]).den
abbrev K_ltoSpcSpecS (pre : In_ltoSpcSpecS → Bool) (fn : In_ltoSpcSpecS → Out_ltoSpcSpecS) : Con := ⟨[.imm L_lSpcSpec], [(.own, L_SpcSpec)], pre, fn⟩
abbrev C_ltoSpcSpecS (pre : In_ltoSpcSpecS → Bool) (fn : In_ltoSpcSpecS → Out_ltoSpcSpecS) : Prop := Sound Try.prog 41 (K_ltoSpcSpecS pre fn)
abbrev X_ltoSpcSpecS (g_ltoSpcSpec : In_ltoSpcSpec → Out_ltoSpcSpec) (p_ltoSpcSpec : In_ltoSpcSpec → Bool) : Ctx := ctx tys 23 (conOf [(90, K_ltoSpcSpec p_ltoSpcSpec g_ltoSpcSpec)]) (keepOf [([false, true, false, true, true], (⟨[(0, .asis), (3, .own), (4, .asis)], [], []⟩ : Keep))]) (fun _ => [])
noncomputable abbrev E_ltoSpcSpecS (g_ltoSpcSpec : In_ltoSpcSpec → Out_ltoSpcSpec) (p_ltoSpcSpec : In_ltoSpcSpec → Bool) (k : Nat) (x : In_ltoSpcSpecS) : Option Out_ltoSpcSpecS := evFn (X_ltoSpcSpecS g_ltoSpcSpec p_ltoSpcSpec) Try.f41 [(.own, L_SpcSpec)] [.imm L_lSpcSpec] k x
def h0_ltoSpcSpecS (x0 : (Mode.inSh (.imm L_lSpcSpec)).den) (h0 : (Sh.den I)) (h1 : (List (Sh.den S_SpcSpec))) : St := (St.mk (updL (fun _ => .unk) [(0, (AV.val L_lSpcSpec x0)), (3, (AV.sref 2503 none [])), (4, (AV.val I h0))]) (updL (fun _ => .none) [(2503, (Ob.arr 85 S_SpcSpec h1))]))
noncomputable def r_ltoSpcSpecS (g_ltoSpcSpec : In_ltoSpcSpec → Out_ltoSpcSpec) (p_ltoSpcSpec : In_ltoSpcSpec → Bool) (x : In_ltoSpcSpecS) (k : Nat) (p : List Bool) (s : St) : Option Out_ltoSpcSpecS := rounds (X_ltoSpcSpecS g_ltoSpcSpec p_ltoSpcSpec) Try.f41 [(.own, L_SpcSpec)] [.imm L_lSpcSpec] x k p s
theorem ev_ltoSpcSpecS (k : Nat) {g_ltoSpcSpec : In_ltoSpcSpec → Out_ltoSpcSpec} {p_ltoSpcSpec : In_ltoSpcSpec → Bool} (x0 : (Mode.inSh (.imm L_lSpcSpec)).den) : E_ltoSpcSpecS g_ltoSpcSpec p_ltoSpcSpec k (x0, ()) =
  (bif (bif (bif (decide ((0 : Int) ≤ ((List.length x0 : Int)))) then (decide (((List.length x0 : Int)) ≤ (BIG : Int))) else false) then (decide (((List.length x0 : Int)) = ((List.length x0 : Int)))) else false) then (r_ltoSpcSpecS g_ltoSpcSpec p_ltoSpcSpec (x0, ()) k [false, true, false, true, true] (h0_ltoSpcSpecS x0 (0 : Int) (List.replicate (Int.toNat ((List.length x0 : Int))) ([], (0 : Int))))) else none) := by kernel_rfl
theorem rd0_ltoSpcSpecS (k : Nat) {g_ltoSpcSpec : In_ltoSpcSpec → Out_ltoSpcSpec} {p_ltoSpcSpec : In_ltoSpcSpec → Bool} (x0 : (Mode.inSh (.imm L_lSpcSpec)).den) (h0 : (Sh.den I)) (h1 : (List (Sh.den S_SpcSpec))) : r_ltoSpcSpecS g_ltoSpcSpec p_ltoSpcSpec (x0, ()) (k + 1) [false, true, false, true, true] (h0_ltoSpcSpecS x0 h0 h1) =
  (bif (decide (h0 < ((List.length x0 : Int)))) then (bif (bif (decide ((0 : Int) ≤ h0)) then (decide (h0 < ((List.length x0 : Int)))) else false) then (bif (p_ltoSpcSpec ((rdL (e := S_lSpcSpec) x0 h0), ())) then (bif (bif (decide ((0 : Int) ≤ h0)) then (decide (h0 < ((List.length h1 : Int)))) else false) then (r_ltoSpcSpecS g_ltoSpcSpec p_ltoSpcSpec (x0, ()) k [false, true, false, true, true] (h0_ltoSpcSpecS x0 (w64 (h0 + (1 : Int))) (List.set h1 (Int.toNat h0) ((g_ltoSpcSpec ((rdL (e := S_lSpcSpec) x0 h0), ())).1.1, (g_ltoSpcSpec ((rdL (e := S_lSpcSpec) x0 h0), ())).1.2)))) else none) else none) else none) else (some (h1, ()))) := by kernel_rfl
theorem S_ltoSpcSpecS {g_ltoSpcSpec : In_ltoSpcSpec → Out_ltoSpcSpec} {p_ltoSpcSpec : In_ltoSpcSpec → Bool} (h_ltoSpcSpec : C_ltoSpcSpec p_ltoSpcSpec g_ltoSpcSpec) {pre : In_ltoSpcSpecS → Bool} {fn : In_ltoSpcSpecS → Out_ltoSpcSpecS} (hev : ∀ x, pre x = true → ∃ k, E_ltoSpcSpecS g_ltoSpcSpec p_ltoSpcSpec k x = some (fn x)) : C_ltoSpcSpecS pre fn := sound tysOk mixed (fn := Try.f41) rfl rfl rfl (ConsOk.cons h_ltoSpcSpec ConsOk.nil) _ hev
/-! sl1In -/
abbrev In_sl1In : Type := (insSh [.imm I, .imm I, .imm I]).den
abbrev Out_sl1In : Type := (outSh [(.imm, .bool)] [.imm I, .imm I, .imm I]).den
abbrev K_sl1In (pre : In_sl1In → Bool) (fn : In_sl1In → Out_sl1In) : Con := ⟨[.imm I, .imm I, .imm I], [(.imm, .bool)], pre, fn⟩
abbrev C_sl1In (pre : In_sl1In → Bool) (fn : In_sl1In → Out_sl1In) : Prop := Sound Try.prog 69 (K_sl1In pre fn)
abbrev X_sl1In  : Ctx := ctx tys 15 (conOf []) (keepOf []) (fun _ => [])
noncomputable abbrev E_sl1In  (k : Nat) (x : In_sl1In) : Option Out_sl1In := evFn X_sl1In Try.f69 [(.imm, .bool)] [.imm I, .imm I, .imm I] k x
theorem ev_sl1In (k : Nat)  (x0 : (Mode.inSh (.imm I)).den) (x1 : (Mode.inSh (.imm I)).den) (x2 : (Mode.inSh (.imm I)).den) : E_sl1In k (x0, x1, x2, ()) =
  (bif (decide (x1 ≤ x0)) then (some ((decide (x0 ≤ x2)), ())) else (some (false, ()))) := by kernel_rfl
theorem S_sl1In   {pre : In_sl1In → Bool} {fn : In_sl1In → Out_sl1In} (hev : ∀ x, pre x = true → ∃ k, E_sl1In k x = some (fn x)) : C_sl1In pre fn := sound tysOk mixed (fn := Try.f69) rfl rfl rfl ConsOk.nil _ hev
/-! sl1Ten -/
abbrev In_sl1Ten : Type := (insSh [.imm I]).den
abbrev Out_sl1Ten : Type := (outSh [(.imm, I)] [.imm I]).den
abbrev K_sl1Ten (pre : In_sl1Ten → Bool) (fn : In_sl1Ten → Out_sl1Ten) : Con := ⟨[.imm I], [(.imm, I)], pre, fn⟩
abbrev C_sl1Ten (pre : In_sl1Ten → Bool) (fn : In_sl1Ten → Out_sl1Ten) : Prop := Sound Try.prog 80 (K_sl1Ten pre fn)
abbrev X_sl1Ten  : Ctx := ctx tys 13 (conOf []) (keepOf [([false, true, false, true, true], (⟨[(0, .asis), (3, .asis), (4, .asis)], [], []⟩ : Keep))]) (fun _ => [])
noncomputable abbrev E_sl1Ten  (k : Nat) (x : In_sl1Ten) : Option Out_sl1Ten := evFn X_sl1Ten Try.f80 [(.imm, I)] [.imm I] k x
def h0_sl1Ten (x0 : (Mode.inSh (.imm I)).den) (h0 : (Sh.den I)) (h1 : (Sh.den I)) : St := (St.mk (updL (fun _ => .unk) [(0, (AV.val I x0)), (3, (AV.val I h0)), (4, (AV.val I h1))]) (updL (fun _ => .none) []))
noncomputable def r_sl1Ten  (x : In_sl1Ten) (k : Nat) (p : List Bool) (s : St) : Option Out_sl1Ten := rounds X_sl1Ten Try.f80 [(.imm, I)] [.imm I] x k p s
theorem ev_sl1Ten (k : Nat)  (x0 : (Mode.inSh (.imm I)).den) : E_sl1Ten k (x0, ()) =
  (r_sl1Ten  (x0, ()) k [false, true, false, true, true] (h0_sl1Ten x0 (1 : Int) (0 : Int))) := by kernel_rfl
theorem rd0_sl1Ten (k : Nat)  (x0 : (Mode.inSh (.imm I)).den) (h0 : (Sh.den I)) (h1 : (Sh.den I)) : r_sl1Ten  (x0, ()) (k + 1) [false, true, false, true, true] (h0_sl1Ten x0 h0 h1) =
  (bif (decide (h1 < x0)) then (r_sl1Ten  (x0, ()) k [false, true, false, true, true] (h0_sl1Ten x0 (w64 (h0 * (10 : Int))) (w64 (h1 + (1 : Int))))) else (some (h0, ()))) := by kernel_rfl
theorem S_sl1Ten   {pre : In_sl1Ten → Bool} {fn : In_sl1Ten → Out_sl1Ten} (hev : ∀ x, pre x = true → ∃ k, E_sl1Ten k x = some (fn x)) : C_sl1Ten pre fn := sound tysOk mixed (fn := Try.f80) rfl rfl rfl ConsOk.nil _ hev
/-! sDecOk -/
abbrev In_sDecOk : Type := (insSh [.imm S_DecDec]).den
abbrev Out_sDecOk : Type := (outSh [(.imm, .bool)] [.imm S_DecDec]).den
abbrev K_sDecOk (pre : In_sDecOk → Bool) (fn : In_sDecOk → Out_sDecOk) : Con := ⟨[.imm S_DecDec], [(.imm, .bool)], pre, fn⟩
abbrev C_sDecOk (pre : In_sDecOk → Bool) (fn : In_sDecOk → Out_sDecOk) : Prop := Sound Try.prog 26 (K_sDecOk pre fn)
abbrev X_sDecOk (g_sl1In : In_sl1In → Out_sl1In) (g_sl1Ten : In_sl1Ten → Out_sl1Ten) (p_sl1Ten : In_sl1Ten → Bool) : Ctx := ctx tys 19 (conOf [(69, K_sl1In (fun _ => true) g_sl1In), (80, K_sl1Ten p_sl1Ten g_sl1Ten)]) (keepOf []) (fun _ => [])
noncomputable abbrev E_sDecOk (g_sl1In : In_sl1In → Out_sl1In) (g_sl1Ten : In_sl1Ten → Out_sl1Ten) (p_sl1Ten : In_sl1Ten → Bool) (k : Nat) (x : In_sDecOk) : Option Out_sDecOk := evFn (X_sDecOk g_sl1In g_sl1Ten p_sl1Ten) Try.f26 [(.imm, .bool)] [.imm S_DecDec] k x
theorem ev_sDecOk (k : Nat) {g_sl1In : In_sl1In → Out_sl1In} {g_sl1Ten : In_sl1Ten → Out_sl1Ten} {p_sl1Ten : In_sl1Ten → Bool} (x0 : (Mode.inSh (.imm S_DecDec)).den) : E_sDecOk g_sl1In g_sl1Ten p_sl1Ten k (x0, ()) =
  (bif (g_sl1In (x0.2, ((0 : Int), ((3 : Int), ())))).1 then (bif (p_sl1Ten (x0.2, ())) then (bif (p_sl1Ten (x0.2, ())) then (some ((g_sl1In (x0.1, ((w64 ((-9999 : Int) * (g_sl1Ten (x0.2, ())).1)), ((w64 ((9999 : Int) * (g_sl1Ten (x0.2, ())).1)), ())))).1, ())) else none) else none) else (some (false, ()))) := by kernel_rfl
theorem S_sDecOk {g_sl1In : In_sl1In → Out_sl1In} {g_sl1Ten : In_sl1Ten → Out_sl1Ten} {p_sl1Ten : In_sl1Ten → Bool} (h_sl1In : C_sl1In (fun _ => true) g_sl1In) (h_sl1Ten : C_sl1Ten p_sl1Ten g_sl1Ten) {pre : In_sDecOk → Bool} {fn : In_sDecOk → Out_sDecOk} (hev : ∀ x, pre x = true → ∃ k, E_sDecOk g_sl1In g_sl1Ten p_sl1Ten k x = some (fn x)) : C_sDecOk pre fn := sound tysOk mixed (fn := Try.f26) rfl rfl rfl (ConsOk.cons h_sl1In (ConsOk.cons h_sl1Ten ConsOk.nil)) _ hev
/-! sl1Near -/
abbrev In_sl1Near : Type := (insSh [.imm I, .imm I]).den
abbrev Out_sl1Near : Type := (outSh [(.imm, I)] [.imm I, .imm I]).den
abbrev K_sl1Near (pre : In_sl1Near → Bool) (fn : In_sl1Near → Out_sl1Near) : Con := ⟨[.imm I, .imm I], [(.imm, I)], pre, fn⟩
abbrev C_sl1Near (pre : In_sl1Near → Bool) (fn : In_sl1Near → Out_sl1Near) : Prop := Sound Try.prog 104 (K_sl1Near pre fn)
abbrev X_sl1Near (g_sl1Near : In_sl1Near → Out_sl1Near) (p_sl1Near : In_sl1Near → Bool) : Ctx := ctx tys 19 (conOf [(104, K_sl1Near p_sl1Near g_sl1Near)]) (keepOf []) (fun _ => [])
noncomputable abbrev E_sl1Near (g_sl1Near : In_sl1Near → Out_sl1Near) (p_sl1Near : In_sl1Near → Bool) (k : Nat) (x : In_sl1Near) : Option Out_sl1Near := evFn (X_sl1Near g_sl1Near p_sl1Near) Try.f104 [(.imm, I)] [.imm I, .imm I] k x
theorem ev_sl1Near (k : Nat) {g_sl1Near : In_sl1Near → Out_sl1Near} {p_sl1Near : In_sl1Near → Bool} (x0 : (Mode.inSh (.imm I)).den) (x1 : (Mode.inSh (.imm I)).den) : E_sl1Near g_sl1Near p_sl1Near k (x0, x1, ()) =
  (bif (decide (x0 < (0 : Int))) then (bif (p_sl1Near ((w64 ((0 : Int) - x0)), (x1, ()))) then (some ((w64 ((0 : Int) - (g_sl1Near ((w64 ((0 : Int) - x0)), (x1, ()))).1)), ())) else none) else (bif (bif (decide ((w64 ((2 : Int) * x1)) = (0 : Int))) then false else true) then (some ((w64 (Int.tdiv (w64 ((w64 ((2 : Int) * x0)) + x1)) (w64 ((2 : Int) * x1)))), ())) else none)) := by kernel_rfl
theorem S_sl1Near {g_sl1Near : In_sl1Near → Out_sl1Near} {p_sl1Near : In_sl1Near → Bool} (h_sl1Near : C_sl1Near p_sl1Near g_sl1Near) {pre : In_sl1Near → Bool} {fn : In_sl1Near → Out_sl1Near} (hev : ∀ x, pre x = true → ∃ k, E_sl1Near g_sl1Near p_sl1Near k x = some (fn x)) : C_sl1Near pre fn := sound tysOk mixed (fn := Try.f104) rfl rfl rfl (ConsOk.cons h_sl1Near ConsOk.nil) _ hev
theorem S0_sl1Near {fn : In_sl1Near → Out_sl1Near} : C_sl1Near (fun _ => false) fn := sound tysOk mixed (fn := Try.f104) (n := 19) (keep := keepOf []) (fz := fun _ => []) rfl rfl rfl ConsOk.nil _ fun x hx => by cases hx
/-! sl1At -/
abbrev In_sl1At : Type := (insSh [.imm S_DecDec, .imm I]).den
abbrev Out_sl1At : Type := (outSh [(.imm, S_DecDec)] [.imm S_DecDec, .imm I]).den
abbrev K_sl1At (pre : In_sl1At → Bool) (fn : In_sl1At → Out_sl1At) : Con := ⟨[.imm S_DecDec, .imm I], [(.imm, S_DecDec)], pre, fn⟩
abbrev C_sl1At (pre : In_sl1At → Bool) (fn : In_sl1At → Out_sl1At) : Prop := Sound Try.prog 65 (K_sl1At pre fn)
abbrev X_sl1At (g_sl1Ten : In_sl1Ten → Out_sl1Ten) (p_sl1Ten : In_sl1Ten → Bool) (g_sl1Near : In_sl1Near → Out_sl1Near) (p_sl1Near : In_sl1Near → Bool) : Ctx := ctx tys 29 (conOf [(80, K_sl1Ten p_sl1Ten g_sl1Ten), (104, K_sl1Near p_sl1Near g_sl1Near)]) (keepOf []) (fun _ => [])
noncomputable abbrev E_sl1At (g_sl1Ten : In_sl1Ten → Out_sl1Ten) (p_sl1Ten : In_sl1Ten → Bool) (g_sl1Near : In_sl1Near → Out_sl1Near) (p_sl1Near : In_sl1Near → Bool) (k : Nat) (x : In_sl1At) : Option Out_sl1At := evFn (X_sl1At g_sl1Ten p_sl1Ten g_sl1Near p_sl1Near) Try.f65 [(.imm, S_DecDec)] [.imm S_DecDec, .imm I] k x
theorem ev_sl1At (k : Nat) {g_sl1Ten : In_sl1Ten → Out_sl1Ten} {p_sl1Ten : In_sl1Ten → Bool} {g_sl1Near : In_sl1Near → Out_sl1Near} {p_sl1Near : In_sl1Near → Bool} (x0 : (Mode.inSh (.imm S_DecDec)).den) (x1 : (Mode.inSh (.imm I)).den) : E_sl1At g_sl1Ten p_sl1Ten g_sl1Near p_sl1Near k (x0, x1, ()) =
  (bif (decide (x0.2 ≤ x1)) then (bif (p_sl1Ten ((w64 (x1 - x0.2)), ())) then (some (((w64 (x0.1 * (g_sl1Ten ((w64 (x1 - x0.2)), ())).1)), x1), ())) else none) else (bif (p_sl1Ten ((w64 (x0.2 - x1)), ())) then (bif (p_sl1Near (x0.1, ((g_sl1Ten ((w64 (x0.2 - x1)), ())).1, ()))) then (some (((g_sl1Near (x0.1, ((g_sl1Ten ((w64 (x0.2 - x1)), ())).1, ()))).1, x1), ())) else none) else none)) := by kernel_rfl
theorem S_sl1At {g_sl1Ten : In_sl1Ten → Out_sl1Ten} {p_sl1Ten : In_sl1Ten → Bool} {g_sl1Near : In_sl1Near → Out_sl1Near} {p_sl1Near : In_sl1Near → Bool} (h_sl1Ten : C_sl1Ten p_sl1Ten g_sl1Ten) (h_sl1Near : C_sl1Near p_sl1Near g_sl1Near) {pre : In_sl1At → Bool} {fn : In_sl1At → Out_sl1At} (hev : ∀ x, pre x = true → ∃ k, E_sl1At g_sl1Ten p_sl1Ten g_sl1Near p_sl1Near k x = some (fn x)) : C_sl1At pre fn := sound tysOk mixed (fn := Try.f65) rfl rfl rfl (ConsOk.cons h_sl1Ten (ConsOk.cons h_sl1Near ConsOk.nil)) _ hev
/-! sDecCmp -/
abbrev In_sDecCmp : Type := (insSh [.imm S_DecDec, .imm S_DecDec]).den
abbrev Out_sDecCmp : Type := (outSh [(.imm, I)] [.imm S_DecDec, .imm S_DecDec]).den
abbrev K_sDecCmp (pre : In_sDecCmp → Bool) (fn : In_sDecCmp → Out_sDecCmp) : Con := ⟨[.imm S_DecDec, .imm S_DecDec], [(.imm, I)], pre, fn⟩
abbrev C_sDecCmp (pre : In_sDecCmp → Bool) (fn : In_sDecCmp → Out_sDecCmp) : Prop := Sound Try.prog 66 (K_sDecCmp pre fn)
abbrev X_sDecCmp (g_sDecOk : In_sDecOk → Out_sDecOk) (g_sl1At : In_sl1At → Out_sl1At) (p_sl1At : In_sl1At → Bool) : Ctx := ctx tys 29 (conOf [(26, K_sDecOk (fun _ => true) g_sDecOk), (65, K_sl1At p_sl1At g_sl1At)]) (keepOf []) (fun _ => [])
noncomputable abbrev E_sDecCmp (g_sDecOk : In_sDecOk → Out_sDecOk) (g_sl1At : In_sl1At → Out_sl1At) (p_sl1At : In_sl1At → Bool) (k : Nat) (x : In_sDecCmp) : Option Out_sDecCmp := evFn (X_sDecCmp g_sDecOk g_sl1At p_sl1At) Try.f66 [(.imm, I)] [.imm S_DecDec, .imm S_DecDec] k x
theorem ev_sDecCmp (k : Nat) {g_sDecOk : In_sDecOk → Out_sDecOk} {g_sl1At : In_sl1At → Out_sl1At} {p_sl1At : In_sl1At → Bool} (x0 : (Mode.inSh (.imm S_DecDec)).den) (x1 : (Mode.inSh (.imm S_DecDec)).den) : E_sDecCmp g_sDecOk g_sl1At p_sl1At k (x0, x1, ()) =
  (bif (bif (g_sDecOk (x0, ())).1 then false else true) then (some ((0 : Int), ())) else (bif (bif (g_sDecOk (x1, ())).1 then false else true) then (some ((0 : Int), ())) else (bif (p_sl1At (x0, ((3 : Int), ()))) then (bif (p_sl1At (x1, ((3 : Int), ()))) then (bif (decide ((g_sl1At (x0, ((3 : Int), ()))).1.1 < (g_sl1At (x1, ((3 : Int), ()))).1.1)) then (some ((-1 : Int), ())) else (bif (decide ((g_sl1At (x1, ((3 : Int), ()))).1.1 < (g_sl1At (x0, ((3 : Int), ()))).1.1)) then (some ((1 : Int), ())) else (some ((0 : Int), ())))) else none) else none))) := by kernel_rfl
theorem S_sDecCmp {g_sDecOk : In_sDecOk → Out_sDecOk} {g_sl1At : In_sl1At → Out_sl1At} {p_sl1At : In_sl1At → Bool} (h_sDecOk : C_sDecOk (fun _ => true) g_sDecOk) (h_sl1At : C_sl1At p_sl1At g_sl1At) {pre : In_sDecCmp → Bool} {fn : In_sDecCmp → Out_sDecCmp} (hev : ∀ x, pre x = true → ∃ k, E_sDecCmp g_sDecOk g_sl1At p_sl1At k x = some (fn x)) : C_sDecCmp pre fn := sound tysOk mixed (fn := Try.f66) rfl rfl rfl (ConsOk.cons h_sDecOk (ConsOk.cons h_sl1At ConsOk.nil)) _ hev
/-! sl3Test -/
abbrev In_sl3Test : Type := (insSh [.imm S_SpcTest]).den
abbrev Out_sl3Test : Type := (outSh [(.imm, .bool)] [.imm S_SpcTest]).den
abbrev K_sl3Test (pre : In_sl3Test → Bool) (fn : In_sl3Test → Out_sl3Test) : Con := ⟨[.imm S_SpcTest], [(.imm, .bool)], pre, fn⟩
abbrev C_sl3Test (pre : In_sl3Test → Bool) (fn : In_sl3Test → Out_sl3Test) : Prop := Sound Try.prog 64 (K_sl3Test pre fn)
abbrev X_sl3Test (g_sl1In : In_sl1In → Out_sl1In) (g_sDecOk : In_sDecOk → Out_sDecOk) (g_sDecCmp : In_sDecCmp → Out_sDecCmp) : Ctx := ctx tys 29 (conOf [(69, K_sl1In (fun _ => true) g_sl1In), (26, K_sDecOk (fun _ => true) g_sDecOk), (66, K_sDecCmp (fun _ => true) g_sDecCmp)]) (keepOf []) (fun _ => [])
noncomputable abbrev E_sl3Test (g_sl1In : In_sl1In → Out_sl1In) (g_sDecOk : In_sDecOk → Out_sDecOk) (g_sDecCmp : In_sDecCmp → Out_sDecCmp) (k : Nat) (x : In_sl3Test) : Option Out_sl3Test := evFn (X_sl3Test g_sl1In g_sDecOk g_sDecCmp) Try.f64 [(.imm, .bool)] [.imm S_SpcTest] k x
theorem ev_sl3Test (k : Nat) {g_sl1In : In_sl1In → Out_sl1In} {g_sDecOk : In_sDecOk → Out_sDecOk} {g_sDecCmp : In_sDecCmp → Out_sDecCmp} (x0 : (Mode.inSh (.imm S_SpcTest)).den) : E_sl3Test g_sl1In g_sDecOk g_sDecCmp k (x0, ()) =
  (bif (g_sl1In (x0.1, ((1 : Int), ((4 : Int), ())))).1 then (bif (g_sDecOk (x0.2.1, ())).1 then (bif (g_sDecOk (x0.2.2.1, ())).1 then (bif (decide ((g_sDecCmp (x0.2.1, (x0.2.2.1, ()))).1 ≤ (0 : Int))) then (some ((g_sl1In (x0.2.2.2, ((0 : Int), ((3 : Int), ())))).1, ())) else (some (false, ()))) else (some (false, ()))) else (some (false, ()))) else (some (false, ()))) := by kernel_rfl
theorem S_sl3Test {g_sl1In : In_sl1In → Out_sl1In} {g_sDecOk : In_sDecOk → Out_sDecOk} {g_sDecCmp : In_sDecCmp → Out_sDecCmp} (h_sl1In : C_sl1In (fun _ => true) g_sl1In) (h_sDecOk : C_sDecOk (fun _ => true) g_sDecOk) (h_sDecCmp : C_sDecCmp (fun _ => true) g_sDecCmp) {pre : In_sl3Test → Bool} {fn : In_sl3Test → Out_sl3Test} (hev : ∀ x, pre x = true → ∃ k, E_sl3Test g_sl1In g_sDecOk g_sDecCmp k x = some (fn x)) : C_sl3Test pre fn := sound tysOk mixed (fn := Try.f64) rfl rfl rfl (ConsOk.cons h_sl1In (ConsOk.cons h_sDecOk (ConsOk.cons h_sDecCmp ConsOk.nil))) _ hev
/-! sSpcTestsOk -/
abbrev In_sSpcTestsOk : Type := (insSh [.imm L_SpcTest]).den
abbrev Out_sSpcTestsOk : Type := (outSh [(.imm, .bool)] [.imm L_SpcTest]).den
abbrev K_sSpcTestsOk (pre : In_sSpcTestsOk → Bool) (fn : In_sSpcTestsOk → Out_sSpcTestsOk) : Con := ⟨[.imm L_SpcTest], [(.imm, .bool)], pre, fn⟩
abbrev C_sSpcTestsOk (pre : In_sSpcTestsOk → Bool) (fn : In_sSpcTestsOk → Out_sSpcTestsOk) : Prop := Sound Try.prog 19 (K_sSpcTestsOk pre fn)
abbrev X_sSpcTestsOk (g_sl1In : In_sl1In → Out_sl1In) (g_sl3Test : In_sl3Test → Out_sl3Test) : Ctx := ctx tys 38 (conOf [(69, K_sl1In (fun _ => true) g_sl1In), (64, K_sl3Test (fun _ => true) g_sl3Test)]) (keepOf [([false, true, false, true, true], (⟨[(0, .asis), (3, .asis)], [], []⟩ : Keep))]) (fun _ => [])
noncomputable abbrev E_sSpcTestsOk (g_sl1In : In_sl1In → Out_sl1In) (g_sl3Test : In_sl3Test → Out_sl3Test) (k : Nat) (x : In_sSpcTestsOk) : Option Out_sSpcTestsOk := evFn (X_sSpcTestsOk g_sl1In g_sl3Test) Try.f19 [(.imm, .bool)] [.imm L_SpcTest] k x
def h0_sSpcTestsOk (x0 : (Mode.inSh (.imm L_SpcTest)).den) (h0 : (Sh.den I)) : St := (St.mk (updL (fun _ => .unk) [(0, (AV.val L_SpcTest x0)), (3, (AV.val I h0))]) (updL (fun _ => .none) []))
noncomputable def r_sSpcTestsOk (g_sl1In : In_sl1In → Out_sl1In) (g_sl3Test : In_sl3Test → Out_sl3Test) (x : In_sSpcTestsOk) (k : Nat) (p : List Bool) (s : St) : Option Out_sSpcTestsOk := rounds (X_sSpcTestsOk g_sl1In g_sl3Test) Try.f19 [(.imm, .bool)] [.imm L_SpcTest] x k p s
theorem ev_sSpcTestsOk (k : Nat) {g_sl1In : In_sl1In → Out_sl1In} {g_sl3Test : In_sl3Test → Out_sl3Test} (x0 : (Mode.inSh (.imm L_SpcTest)).den) : E_sSpcTestsOk g_sl1In g_sl3Test k (x0, ()) =
  (bif (bif (g_sl1In (((List.length x0 : Int)), ((1 : Int), ((4 : Int), ())))).1 then false else true) then (some (false, ())) else (r_sSpcTestsOk g_sl1In g_sl3Test (x0, ()) k [false, true, false, true, true] (h0_sSpcTestsOk x0 (0 : Int)))) := by kernel_rfl
theorem rd0_sSpcTestsOk (k : Nat) {g_sl1In : In_sl1In → Out_sl1In} {g_sl3Test : In_sl3Test → Out_sl3Test} (x0 : (Mode.inSh (.imm L_SpcTest)).den) (h0 : (Sh.den I)) : r_sSpcTestsOk g_sl1In g_sl3Test (x0, ()) (k + 1) [false, true, false, true, true] (h0_sSpcTestsOk x0 h0) =
  (bif (decide (h0 < ((List.length x0 : Int)))) then (bif (bif (decide ((0 : Int) ≤ h0)) then (decide (h0 < ((List.length x0 : Int)))) else false) then (bif (bif (g_sl3Test ((rdL (e := S_SpcTest) x0 h0), ())).1 then false else true) then (some (false, ())) else (bif (decide ((0 : Int) < h0)) then (bif (bif (decide ((0 : Int) ≤ (w64 (h0 - (1 : Int))))) then (decide ((w64 (h0 - (1 : Int))) < ((List.length x0 : Int)))) else false) then (bif (bif (decide ((0 : Int) ≤ h0)) then (decide (h0 < ((List.length x0 : Int)))) else false) then (bif (decide ((rdL (e := S_SpcTest) x0 h0).1 ≤ (rdL (e := S_SpcTest) x0 (w64 (h0 - (1 : Int)))).1)) then (some (false, ())) else (r_sSpcTestsOk g_sl1In g_sl3Test (x0, ()) k [false, true, false, true, true] (h0_sSpcTestsOk x0 (w64 (h0 + (1 : Int)))))) else none) else none) else (r_sSpcTestsOk g_sl1In g_sl3Test (x0, ()) k [false, true, false, true, true] (h0_sSpcTestsOk x0 (w64 (h0 + (1 : Int))))))) else none) else (some (true, ()))) := by kernel_rfl
theorem S_sSpcTestsOk {g_sl1In : In_sl1In → Out_sl1In} {g_sl3Test : In_sl3Test → Out_sl3Test} (h_sl1In : C_sl1In (fun _ => true) g_sl1In) (h_sl3Test : C_sl3Test (fun _ => true) g_sl3Test) {pre : In_sSpcTestsOk → Bool} {fn : In_sSpcTestsOk → Out_sSpcTestsOk} (hev : ∀ x, pre x = true → ∃ k, E_sSpcTestsOk g_sl1In g_sl3Test k x = some (fn x)) : C_sSpcTestsOk pre fn := sound tysOk mixed (fn := Try.f19) rfl rfl rfl (ConsOk.cons h_sl1In (ConsOk.cons h_sl3Test ConsOk.nil)) _ hev
/-! sSpcOk -/
abbrev In_sSpcOk : Type := (insSh [.imm L_SpcSpec]).den
abbrev Out_sSpcOk : Type := (outSh [(.imm, .bool)] [.imm L_SpcSpec]).den
abbrev K_sSpcOk (pre : In_sSpcOk → Bool) (fn : In_sSpcOk → Out_sSpcOk) : Con := ⟨[.imm L_SpcSpec], [(.imm, .bool)], pre, fn⟩
abbrev C_sSpcOk (pre : In_sSpcOk → Bool) (fn : In_sSpcOk → Out_sSpcOk) : Prop := Sound Try.prog 40 (K_sSpcOk pre fn)
abbrev X_sSpcOk (g_sSpcTestsOk : In_sSpcTestsOk → Out_sSpcTestsOk) (g_sl1In : In_sl1In → Out_sl1In) : Ctx := ctx tys 40 (conOf [(19, K_sSpcTestsOk (fun _ => true) g_sSpcTestsOk), (69, K_sl1In (fun _ => true) g_sl1In)]) (keepOf [([false, true, false, true, true, true], (⟨[(0, .asis), (3, .asis), (4, .asis)], [], []⟩ : Keep))]) (fun _ => [])
noncomputable abbrev E_sSpcOk (g_sSpcTestsOk : In_sSpcTestsOk → Out_sSpcTestsOk) (g_sl1In : In_sl1In → Out_sl1In) (k : Nat) (x : In_sSpcOk) : Option Out_sSpcOk := evFn (X_sSpcOk g_sSpcTestsOk g_sl1In) Try.f40 [(.imm, .bool)] [.imm L_SpcSpec] k x
def h0_sSpcOk (x0 : (Mode.inSh (.imm L_SpcSpec)).den) (h0 : (Sh.den I)) (h1 : (Sh.den I)) : St := (St.mk (updL (fun _ => .unk) [(0, (AV.val L_SpcSpec x0)), (3, (AV.val I h0)), (4, (AV.val I h1))]) (updL (fun _ => .none) []))
noncomputable def r_sSpcOk (g_sSpcTestsOk : In_sSpcTestsOk → Out_sSpcTestsOk) (g_sl1In : In_sl1In → Out_sl1In) (x : In_sSpcOk) (k : Nat) (p : List Bool) (s : St) : Option Out_sSpcOk := rounds (X_sSpcOk g_sSpcTestsOk g_sl1In) Try.f40 [(.imm, .bool)] [.imm L_SpcSpec] x k p s
theorem ev_sSpcOk (k : Nat) {g_sSpcTestsOk : In_sSpcTestsOk → Out_sSpcTestsOk} {g_sl1In : In_sl1In → Out_sl1In} (x0 : (Mode.inSh (.imm L_SpcSpec)).den) : E_sSpcOk g_sSpcTestsOk g_sl1In k (x0, ()) =
  (bif (decide ((6 : Int) < ((List.length x0 : Int)))) then (some (false, ())) else (r_sSpcOk g_sSpcTestsOk g_sl1In (x0, ()) k [false, true, false, true, true, true] (h0_sSpcOk x0 (0 : Int) (0 : Int)))) := by kernel_rfl
theorem rd0_sSpcOk (k : Nat) {g_sSpcTestsOk : In_sSpcTestsOk → Out_sSpcTestsOk} {g_sl1In : In_sl1In → Out_sl1In} (x0 : (Mode.inSh (.imm L_SpcSpec)).den) (h0 : (Sh.den I)) (h1 : (Sh.den I)) : r_sSpcOk g_sSpcTestsOk g_sl1In (x0, ()) (k + 1) [false, true, false, true, true, true] (h0_sSpcOk x0 h0 h1) =
  (bif (decide (h1 < ((List.length x0 : Int)))) then (bif (bif (decide ((0 : Int) ≤ h1)) then (decide (h1 < ((List.length x0 : Int)))) else false) then (bif (bif (g_sSpcTestsOk ((rdL (e := S_SpcSpec) x0 h1).1, ())).1 then false else true) then (some (false, ())) else (bif (bif (decide ((0 : Int) ≤ h1)) then (decide (h1 < ((List.length x0 : Int)))) else false) then (bif (bif (g_sl1In ((rdL (e := S_SpcSpec) x0 h1).2, ((1 : Int), ((3 : Int), ())))).1 then false else true) then (some (false, ())) else (bif (bif (decide ((0 : Int) ≤ h1)) then (decide (h1 < ((List.length x0 : Int)))) else false) then (bif (decide ((rdL (e := S_SpcSpec) x0 h1).2 = (2 : Int))) then (r_sSpcOk g_sSpcTestsOk g_sl1In (x0, ()) k [false, true, false, true, true, true] (h0_sSpcOk x0 (w64 (h0 + (1 : Int))) (w64 (h1 + (1 : Int))))) else (r_sSpcOk g_sSpcTestsOk g_sl1In (x0, ()) k [false, true, false, true, true, true] (h0_sSpcOk x0 h0 (w64 (h1 + (1 : Int)))))) else none)) else none)) else none) else (some ((decide (h0 ≤ (1 : Int))), ()))) := by kernel_rfl
theorem S_sSpcOk {g_sSpcTestsOk : In_sSpcTestsOk → Out_sSpcTestsOk} {g_sl1In : In_sl1In → Out_sl1In} (h_sSpcTestsOk : C_sSpcTestsOk (fun _ => true) g_sSpcTestsOk) (h_sl1In : C_sl1In (fun _ => true) g_sl1In) {pre : In_sSpcOk → Bool} {fn : In_sSpcOk → Out_sSpcOk} (hev : ∀ x, pre x = true → ∃ k, E_sSpcOk g_sSpcTestsOk g_sl1In k x = some (fn x)) : C_sSpcOk pre fn := sound tysOk mixed (fn := Try.f40) rfl rfl rfl (ConsOk.cons h_sSpcTestsOk (ConsOk.cons h_sl1In ConsOk.nil)) _ hev
/-! iin -/
abbrev In_iin : Type := (insSh [.imm I, .imm I, .imm I]).den
abbrev Out_iin : Type := (outSh [(.imm, .bool)] [.imm I, .imm I, .imm I]).den
abbrev K_iin (pre : In_iin → Bool) (fn : In_iin → Out_iin) : Con := ⟨[.imm I, .imm I, .imm I], [(.imm, .bool)], pre, fn⟩
abbrev C_iin (pre : In_iin → Bool) (fn : In_iin → Out_iin) : Prop := Sound Try.prog 70 (K_iin pre fn)
abbrev X_iin  : Ctx := ctx tys 15 (conOf []) (keepOf []) (fun _ => [])
noncomputable abbrev E_iin  (k : Nat) (x : In_iin) : Option Out_iin := evFn X_iin Try.f70 [(.imm, .bool)] [.imm I, .imm I, .imm I] k x
theorem ev_iin (k : Nat)  (x0 : (Mode.inSh (.imm I)).den) (x1 : (Mode.inSh (.imm I)).den) (x2 : (Mode.inSh (.imm I)).den) : E_iin k (x0, x1, x2, ()) =
  (bif (decide (x1 ≤ x0)) then (some ((decide (x0 ≤ x2)), ())) else (some (false, ()))) := by kernel_rfl
theorem S_iin   {pre : In_iin → Bool} {fn : In_iin → Out_iin} (hev : ∀ x, pre x = true → ∃ k, E_iin k x = some (fn x)) : C_iin pre fn := sound tysOk mixed (fn := Try.f70) rfl rfl rfl ConsOk.nil _ hev
/-! iisTest -/
abbrev In_iisTest : Type := (insSh [.imm I]).den
abbrev Out_iisTest : Type := (outSh [(.imm, .bool)] [.imm I]).den
abbrev K_iisTest (pre : In_iisTest → Bool) (fn : In_iisTest → Out_iisTest) : Con := ⟨[.imm I], [(.imm, .bool)], pre, fn⟩
abbrev C_iisTest (pre : In_iisTest → Bool) (fn : In_iisTest → Out_iisTest) : Prop := Sound Try.prog 105 (K_iisTest pre fn)
abbrev X_iisTest (g_iin : In_iin → Out_iin) : Ctx := ctx tys 5 (conOf [(70, K_iin (fun _ => true) g_iin)]) (keepOf []) (fun _ => [])
noncomputable abbrev E_iisTest (g_iin : In_iin → Out_iin) (k : Nat) (x : In_iisTest) : Option Out_iisTest := evFn (X_iisTest g_iin) Try.f105 [(.imm, .bool)] [.imm I] k x
theorem ev_iisTest (k : Nat) {g_iin : In_iin → Out_iin} (x0 : (Mode.inSh (.imm I)).den) : E_iisTest g_iin k (x0, ()) =
  (some ((g_iin (x0, ((1 : Int), ((4 : Int), ())))).1, ())) := by kernel_rfl
theorem S_iisTest {g_iin : In_iin → Out_iin} (h_iin : C_iin (fun _ => true) g_iin) {pre : In_iisTest → Bool} {fn : In_iisTest → Out_iisTest} (hev : ∀ x, pre x = true → ∃ k, E_iisTest g_iin k x = some (fn x)) : C_iisTest pre fn := sound tysOk mixed (fn := Try.f105) rfl rfl rfl (ConsOk.cons h_iin ConsOk.nil) _ hev
/-! ipower -/
abbrev In_ipower : Type := (insSh [.imm I]).den
abbrev Out_ipower : Type := (outSh [(.imm, I)] [.imm I]).den
abbrev K_ipower (pre : In_ipower → Bool) (fn : In_ipower → Out_ipower) : Con := ⟨[.imm I], [(.imm, I)], pre, fn⟩
abbrev C_ipower (pre : In_ipower → Bool) (fn : In_ipower → Out_ipower) : Prop := Sound Try.prog 82 (K_ipower pre fn)
abbrev X_ipower  : Ctx := ctx tys 11 (conOf []) (keepOf [([false, true, false, true, true], (⟨[(3, .asis), (4, .asis), (5, .asis)], [], []⟩ : Keep))]) (fun _ => [])
noncomputable abbrev E_ipower  (k : Nat) (x : In_ipower) : Option Out_ipower := evFn X_ipower Try.f82 [(.imm, I)] [.imm I] k x
def h0_ipower (x0 : (Mode.inSh (.imm I)).den) (h0 : (Sh.den I)) (h1 : (Sh.den I)) : St := (St.mk (updL (fun _ => .unk) [(3, (AV.val I h0)), (4, (AV.val I x0)), (5, (AV.val I h1))]) (updL (fun _ => .none) []))
noncomputable def r_ipower  (x : In_ipower) (k : Nat) (p : List Bool) (s : St) : Option Out_ipower := rounds X_ipower Try.f82 [(.imm, I)] [.imm I] x k p s
theorem ev_ipower (k : Nat)  (x0 : (Mode.inSh (.imm I)).den) : E_ipower k (x0, ()) =
  (r_ipower  (x0, ()) k [false, true, false, true, true] (h0_ipower x0 (1 : Int) (0 : Int))) := by kernel_rfl
theorem rd0_ipower (k : Nat)  (x0 : (Mode.inSh (.imm I)).den) (h0 : (Sh.den I)) (h1 : (Sh.den I)) : r_ipower  (x0, ()) (k + 1) [false, true, false, true, true] (h0_ipower x0 h0 h1) =
  (bif (decide (h1 < x0)) then (r_ipower  (x0, ()) k [false, true, false, true, true] (h0_ipower x0 (w64 (h0 * (10 : Int))) (w64 (h1 + (1 : Int))))) else (some (h0, ()))) := by kernel_rfl
theorem S_ipower   {pre : In_ipower → Bool} {fn : In_ipower → Out_ipower} (hev : ∀ x, pre x = true → ∃ k, E_ipower k x = some (fn x)) : C_ipower pre fn := sound tysOk mixed (fn := Try.f82) rfl rfl rfl ConsOk.nil _ hev
/-! iDecOk -/
abbrev In_iDecOk : Type := (insSh [.imm S_DecDec]).den
abbrev Out_iDecOk : Type := (outSh [(.imm, .bool)] [.imm S_DecDec]).den
abbrev K_iDecOk (pre : In_iDecOk → Bool) (fn : In_iDecOk → Out_iDecOk) : Con := ⟨[.imm S_DecDec], [(.imm, .bool)], pre, fn⟩
abbrev C_iDecOk (pre : In_iDecOk → Bool) (fn : In_iDecOk → Out_iDecOk) : Prop := Sound Try.prog 68 (K_iDecOk pre fn)
abbrev X_iDecOk (g_iin : In_iin → Out_iin) (g_ipower : In_ipower → Out_ipower) (p_ipower : In_ipower → Bool) : Ctx := ctx tys 19 (conOf [(70, K_iin (fun _ => true) g_iin), (82, K_ipower p_ipower g_ipower)]) (keepOf []) (fun _ => [])
noncomputable abbrev E_iDecOk (g_iin : In_iin → Out_iin) (g_ipower : In_ipower → Out_ipower) (p_ipower : In_ipower → Bool) (k : Nat) (x : In_iDecOk) : Option Out_iDecOk := evFn (X_iDecOk g_iin g_ipower p_ipower) Try.f68 [(.imm, .bool)] [.imm S_DecDec] k x
theorem ev_iDecOk (k : Nat) {g_iin : In_iin → Out_iin} {g_ipower : In_ipower → Out_ipower} {p_ipower : In_ipower → Bool} (x0 : (Mode.inSh (.imm S_DecDec)).den) : E_iDecOk g_iin g_ipower p_ipower k (x0, ()) =
  (bif (g_iin (x0.2, ((0 : Int), ((3 : Int), ())))).1 then (bif (p_ipower (x0.2, ())) then (bif (p_ipower (x0.2, ())) then (some ((g_iin (x0.1, ((w64 ((-9999 : Int) * (g_ipower (x0.2, ())).1)), ((w64 ((9999 : Int) * (g_ipower (x0.2, ())).1)), ())))).1, ())) else none) else none) else (some (false, ()))) := by kernel_rfl
theorem S_iDecOk {g_iin : In_iin → Out_iin} {g_ipower : In_ipower → Out_ipower} {p_ipower : In_ipower → Bool} (h_iin : C_iin (fun _ => true) g_iin) (h_ipower : C_ipower p_ipower g_ipower) {pre : In_iDecOk → Bool} {fn : In_iDecOk → Out_iDecOk} (hev : ∀ x, pre x = true → ∃ k, E_iDecOk g_iin g_ipower p_ipower k x = some (fn x)) : C_iDecOk pre fn := sound tysOk mixed (fn := Try.f68) rfl rfl rfl (ConsOk.cons h_iin (ConsOk.cons h_ipower ConsOk.nil)) _ hev
/-! inearest -/
abbrev In_inearest : Type := (insSh [.imm I, .imm I]).den
abbrev Out_inearest : Type := (outSh [(.imm, I)] [.imm I, .imm I]).den
abbrev K_inearest (pre : In_inearest → Bool) (fn : In_inearest → Out_inearest) : Con := ⟨[.imm I, .imm I], [(.imm, I)], pre, fn⟩
abbrev C_inearest (pre : In_inearest → Bool) (fn : In_inearest → Out_inearest) : Prop := Sound Try.prog 83 (K_inearest pre fn)
abbrev X_inearest (g_inearest : In_inearest → Out_inearest) (p_inearest : In_inearest → Bool) : Ctx := ctx tys 19 (conOf [(83, K_inearest p_inearest g_inearest)]) (keepOf []) (fun _ => [])
noncomputable abbrev E_inearest (g_inearest : In_inearest → Out_inearest) (p_inearest : In_inearest → Bool) (k : Nat) (x : In_inearest) : Option Out_inearest := evFn (X_inearest g_inearest p_inearest) Try.f83 [(.imm, I)] [.imm I, .imm I] k x
theorem ev_inearest (k : Nat) {g_inearest : In_inearest → Out_inearest} {p_inearest : In_inearest → Bool} (x0 : (Mode.inSh (.imm I)).den) (x1 : (Mode.inSh (.imm I)).den) : E_inearest g_inearest p_inearest k (x0, x1, ()) =
  (bif (decide (x0 < (0 : Int))) then (bif (p_inearest ((w64 ((0 : Int) - x0)), (x1, ()))) then (some ((w64 ((0 : Int) - (g_inearest ((w64 ((0 : Int) - x0)), (x1, ()))).1)), ())) else none) else (bif (bif (decide ((w64 ((2 : Int) * x1)) = (0 : Int))) then false else true) then (some ((w64 (Int.tdiv (w64 ((w64 ((2 : Int) * x0)) + x1)) (w64 ((2 : Int) * x1)))), ())) else none)) := by kernel_rfl
theorem S_inearest {g_inearest : In_inearest → Out_inearest} {p_inearest : In_inearest → Bool} (h_inearest : C_inearest p_inearest g_inearest) {pre : In_inearest → Bool} {fn : In_inearest → Out_inearest} (hev : ∀ x, pre x = true → ∃ k, E_inearest g_inearest p_inearest k x = some (fn x)) : C_inearest pre fn := sound tysOk mixed (fn := Try.f83) rfl rfl rfl (ConsOk.cons h_inearest ConsOk.nil) _ hev
theorem S0_inearest {fn : In_inearest → Out_inearest} : C_inearest (fun _ => false) fn := sound tysOk mixed (fn := Try.f83) (n := 19) (keep := keepOf []) (fz := fun _ => []) rfl rfl rfl ConsOk.nil _ fun x hx => by cases hx
/-! iDecAt -/
abbrev In_iDecAt : Type := (insSh [.imm S_DecDec, .imm I]).den
abbrev Out_iDecAt : Type := (outSh [(.imm, S_DecDec)] [.imm S_DecDec, .imm I]).den
abbrev K_iDecAt (pre : In_iDecAt → Bool) (fn : In_iDecAt → Out_iDecAt) : Con := ⟨[.imm S_DecDec, .imm I], [(.imm, S_DecDec)], pre, fn⟩
abbrev C_iDecAt (pre : In_iDecAt → Bool) (fn : In_iDecAt → Out_iDecAt) : Prop := Sound Try.prog 28 (K_iDecAt pre fn)
abbrev X_iDecAt (g_iDecOk : In_iDecOk → Out_iDecOk) (g_iin : In_iin → Out_iin) (g_ipower : In_ipower → Out_ipower) (p_ipower : In_ipower → Bool) (g_inearest : In_inearest → Out_inearest) (p_inearest : In_inearest → Bool) : Ctx := ctx tys 40 (conOf [(68, K_iDecOk (fun _ => true) g_iDecOk), (70, K_iin (fun _ => true) g_iin), (82, K_ipower p_ipower g_ipower), (83, K_inearest p_inearest g_inearest)]) (keepOf []) (fun _ => [])
noncomputable abbrev E_iDecAt (g_iDecOk : In_iDecOk → Out_iDecOk) (g_iin : In_iin → Out_iin) (g_ipower : In_ipower → Out_ipower) (p_ipower : In_ipower → Bool) (g_inearest : In_inearest → Out_inearest) (p_inearest : In_inearest → Bool) (k : Nat) (x : In_iDecAt) : Option Out_iDecAt := evFn (X_iDecAt g_iDecOk g_iin g_ipower p_ipower g_inearest p_inearest) Try.f28 [(.imm, S_DecDec)] [.imm S_DecDec, .imm I] k x
theorem ev_iDecAt (k : Nat) {g_iDecOk : In_iDecOk → Out_iDecOk} {g_iin : In_iin → Out_iin} {g_ipower : In_ipower → Out_ipower} {p_ipower : In_ipower → Bool} {g_inearest : In_inearest → Out_inearest} {p_inearest : In_inearest → Bool} (x0 : (Mode.inSh (.imm S_DecDec)).den) (x1 : (Mode.inSh (.imm I)).den) : E_iDecAt g_iDecOk g_iin g_ipower p_ipower g_inearest p_inearest k (x0, x1, ()) =
  (bif (bif (g_iDecOk (x0, ())).1 then false else true) then (some (((0 : Int), (0 : Int)), ())) else (bif (bif (g_iin (x1, ((0 : Int), ((3 : Int), ())))).1 then false else true) then (some (((0 : Int), (0 : Int)), ())) else (bif (decide (x0.2 ≤ x1)) then (bif (p_ipower ((w64 (x1 - x0.2)), ())) then (some (((w64 (x0.1 * (g_ipower ((w64 (x1 - x0.2)), ())).1)), x1), ())) else none) else (bif (p_ipower ((w64 (x0.2 - x1)), ())) then (bif (p_inearest (x0.1, ((g_ipower ((w64 (x0.2 - x1)), ())).1, ()))) then (some (((g_inearest (x0.1, ((g_ipower ((w64 (x0.2 - x1)), ())).1, ()))).1, x1), ())) else none) else none)))) := by kernel_rfl
theorem S_iDecAt {g_iDecOk : In_iDecOk → Out_iDecOk} {g_iin : In_iin → Out_iin} {g_ipower : In_ipower → Out_ipower} {p_ipower : In_ipower → Bool} {g_inearest : In_inearest → Out_inearest} {p_inearest : In_inearest → Bool} (h_iDecOk : C_iDecOk (fun _ => true) g_iDecOk) (h_iin : C_iin (fun _ => true) g_iin) (h_ipower : C_ipower p_ipower g_ipower) (h_inearest : C_inearest p_inearest g_inearest) {pre : In_iDecAt → Bool} {fn : In_iDecAt → Out_iDecAt} (hev : ∀ x, pre x = true → ∃ k, E_iDecAt g_iDecOk g_iin g_ipower p_ipower g_inearest p_inearest k x = some (fn x)) : C_iDecAt pre fn := sound tysOk mixed (fn := Try.f28) rfl rfl rfl (ConsOk.cons h_iDecOk (ConsOk.cons h_iin (ConsOk.cons h_ipower (ConsOk.cons h_inearest ConsOk.nil)))) _ hev
/-! gisNaN_int -/
abbrev In_gisNaN_int : Type := (insSh [.imm I]).den
abbrev Out_gisNaN_int : Type := (outSh [(.imm, .bool)] [.imm I]).den
abbrev K_gisNaN_int (pre : In_gisNaN_int → Bool) (fn : In_gisNaN_int → Out_gisNaN_int) : Con := ⟨[.imm I], [(.imm, .bool)], pre, fn⟩
abbrev C_gisNaN_int (pre : In_gisNaN_int → Bool) (fn : In_gisNaN_int → Out_gisNaN_int) : Prop := Sound Try.prog 107 (K_gisNaN_int pre fn)
abbrev X_gisNaN_int  : Ctx := ctx tys 6 (conOf []) (keepOf []) (fun _ => [])
noncomputable abbrev E_gisNaN_int  (k : Nat) (x : In_gisNaN_int) : Option Out_gisNaN_int := evFn X_gisNaN_int Try.f107 [(.imm, .bool)] [.imm I] k x
theorem ev_gisNaN_int (k : Nat)  (x0 : (Mode.inSh (.imm I)).den) : E_gisNaN_int k (x0, ()) =
  (some ((bif (decide (x0 = x0)) then false else true), ())) := by kernel_rfl
theorem S_gisNaN_int   {pre : In_gisNaN_int → Bool} {fn : In_gisNaN_int → Out_gisNaN_int} (hev : ∀ x, pre x = true → ∃ k, E_gisNaN_int k x = some (fn x)) : C_gisNaN_int pre fn := sound tysOk mixed (fn := Try.f107) rfl rfl rfl ConsOk.nil _ hev
/-! gCompare_int -/
abbrev In_gCompare_int : Type := (insSh [.imm I, .imm I]).den
abbrev Out_gCompare_int : Type := (outSh [(.imm, I)] [.imm I, .imm I]).den
abbrev K_gCompare_int (pre : In_gCompare_int → Bool) (fn : In_gCompare_int → Out_gCompare_int) : Con := ⟨[.imm I, .imm I], [(.imm, I)], pre, fn⟩
abbrev C_gCompare_int (pre : In_gCompare_int → Bool) (fn : In_gCompare_int → Out_gCompare_int) : Prop := Sound Try.prog 84 (K_gCompare_int pre fn)
abbrev X_gCompare_int (g_gisNaN_int : In_gisNaN_int → Out_gisNaN_int) : Ctx := ctx tys 20 (conOf [(107, K_gisNaN_int (fun _ => true) g_gisNaN_int)]) (keepOf []) (fun _ => [])
noncomputable abbrev E_gCompare_int (g_gisNaN_int : In_gisNaN_int → Out_gisNaN_int) (k : Nat) (x : In_gCompare_int) : Option Out_gCompare_int := evFn (X_gCompare_int g_gisNaN_int) Try.f84 [(.imm, I)] [.imm I, .imm I] k x
theorem ev_gCompare_int (k : Nat) {g_gisNaN_int : In_gisNaN_int → Out_gisNaN_int} (x0 : (Mode.inSh (.imm I)).den) (x1 : (Mode.inSh (.imm I)).den) : E_gCompare_int g_gisNaN_int k (x0, x1, ()) =
  (bif (g_gisNaN_int (x0, ())).1 then (bif (g_gisNaN_int (x1, ())).1 then (some ((0 : Int), ())) else (some ((-1 : Int), ()))) else (bif (g_gisNaN_int (x1, ())).1 then (some ((1 : Int), ())) else (bif (decide (x0 < x1)) then (some ((-1 : Int), ())) else (bif (decide (x1 < x0)) then (some ((1 : Int), ())) else (some ((0 : Int), ())))))) := by kernel_rfl
theorem S_gCompare_int {g_gisNaN_int : In_gisNaN_int → Out_gisNaN_int} (h_gisNaN_int : C_gisNaN_int (fun _ => true) g_gisNaN_int) {pre : In_gCompare_int → Bool} {fn : In_gCompare_int → Out_gCompare_int} (hev : ∀ x, pre x = true → ∃ k, E_gCompare_int g_gisNaN_int k x = some (fn x)) : C_gCompare_int pre fn := sound tysOk mixed (fn := Try.f84) rfl rfl rfl (ConsOk.cons h_gisNaN_int ConsOk.nil) _ hev
/-! iDecCmp -/
abbrev In_iDecCmp : Type := (insSh [.imm S_DecDec, .imm S_DecDec]).den
abbrev Out_iDecCmp : Type := (outSh [(.imm, I)] [.imm S_DecDec, .imm S_DecDec]).den
abbrev K_iDecCmp (pre : In_iDecCmp → Bool) (fn : In_iDecCmp → Out_iDecCmp) : Con := ⟨[.imm S_DecDec, .imm S_DecDec], [(.imm, I)], pre, fn⟩
abbrev C_iDecCmp (pre : In_iDecCmp → Bool) (fn : In_iDecCmp → Out_iDecCmp) : Prop := Sound Try.prog 29 (K_iDecCmp pre fn)
abbrev X_iDecCmp (g_iDecOk : In_iDecOk → Out_iDecOk) (g_iDecAt : In_iDecAt → Out_iDecAt) (g_gCompare_int : In_gCompare_int → Out_gCompare_int) : Ctx := ctx tys 20 (conOf [(68, K_iDecOk (fun _ => true) g_iDecOk), (28, K_iDecAt (fun _ => true) g_iDecAt), (84, K_gCompare_int (fun _ => true) g_gCompare_int)]) (keepOf []) (fun _ => [])
noncomputable abbrev E_iDecCmp (g_iDecOk : In_iDecOk → Out_iDecOk) (g_iDecAt : In_iDecAt → Out_iDecAt) (g_gCompare_int : In_gCompare_int → Out_gCompare_int) (k : Nat) (x : In_iDecCmp) : Option Out_iDecCmp := evFn (X_iDecCmp g_iDecOk g_iDecAt g_gCompare_int) Try.f29 [(.imm, I)] [.imm S_DecDec, .imm S_DecDec] k x
theorem ev_iDecCmp (k : Nat) {g_iDecOk : In_iDecOk → Out_iDecOk} {g_iDecAt : In_iDecAt → Out_iDecAt} {g_gCompare_int : In_gCompare_int → Out_gCompare_int} (x0 : (Mode.inSh (.imm S_DecDec)).den) (x1 : (Mode.inSh (.imm S_DecDec)).den) : E_iDecCmp g_iDecOk g_iDecAt g_gCompare_int k (x0, x1, ()) =
  (bif (bif (g_iDecOk (x0, ())).1 then false else true) then (some ((0 : Int), ())) else (bif (bif (g_iDecOk (x1, ())).1 then false else true) then (some ((0 : Int), ())) else (some ((g_gCompare_int ((g_iDecAt (x0, ((3 : Int), ()))).1.1, ((g_iDecAt (x1, ((3 : Int), ()))).1.1, ()))).1, ())))) := by kernel_rfl
theorem S_iDecCmp {g_iDecOk : In_iDecOk → Out_iDecOk} {g_iDecAt : In_iDecAt → Out_iDecAt} {g_gCompare_int : In_gCompare_int → Out_gCompare_int} (h_iDecOk : C_iDecOk (fun _ => true) g_iDecOk) (h_iDecAt : C_iDecAt (fun _ => true) g_iDecAt) (h_gCompare_int : C_gCompare_int (fun _ => true) g_gCompare_int) {pre : In_iDecCmp → Bool} {fn : In_iDecCmp → Out_iDecCmp} (hev : ∀ x, pre x = true → ∃ k, E_iDecCmp g_iDecOk g_iDecAt g_gCompare_int k x = some (fn x)) : C_iDecCmp pre fn := sound tysOk mixed (fn := Try.f29) rfl rfl rfl (ConsOk.cons h_iDecOk (ConsOk.cons h_iDecAt (ConsOk.cons h_gCompare_int ConsOk.nil))) _ hev
/-! iSpcTest_ok -/
abbrev In_iSpcTest_ok : Type := (insSh [.imm S_SpcTest]).den
abbrev Out_iSpcTest_ok : Type := (outSh [(.imm, .bool)] [.imm S_SpcTest]).den
abbrev K_iSpcTest_ok (pre : In_iSpcTest_ok → Bool) (fn : In_iSpcTest_ok → Out_iSpcTest_ok) : Con := ⟨[.imm S_SpcTest], [(.imm, .bool)], pre, fn⟩
abbrev C_iSpcTest_ok (pre : In_iSpcTest_ok → Bool) (fn : In_iSpcTest_ok → Out_iSpcTest_ok) : Prop := Sound Try.prog 67 (K_iSpcTest_ok pre fn)
abbrev X_iSpcTest_ok (g_iisTest : In_iisTest → Out_iisTest) (g_iDecOk : In_iDecOk → Out_iDecOk) (g_iDecCmp : In_iDecCmp → Out_iDecCmp) (g_iin : In_iin → Out_iin) : Ctx := ctx tys 29 (conOf [(105, K_iisTest (fun _ => true) g_iisTest), (68, K_iDecOk (fun _ => true) g_iDecOk), (29, K_iDecCmp (fun _ => true) g_iDecCmp), (70, K_iin (fun _ => true) g_iin)]) (keepOf []) (fun _ => [])
noncomputable abbrev E_iSpcTest_ok (g_iisTest : In_iisTest → Out_iisTest) (g_iDecOk : In_iDecOk → Out_iDecOk) (g_iDecCmp : In_iDecCmp → Out_iDecCmp) (g_iin : In_iin → Out_iin) (k : Nat) (x : In_iSpcTest_ok) : Option Out_iSpcTest_ok := evFn (X_iSpcTest_ok g_iisTest g_iDecOk g_iDecCmp g_iin) Try.f67 [(.imm, .bool)] [.imm S_SpcTest] k x
theorem ev_iSpcTest_ok (k : Nat) {g_iisTest : In_iisTest → Out_iisTest} {g_iDecOk : In_iDecOk → Out_iDecOk} {g_iDecCmp : In_iDecCmp → Out_iDecCmp} {g_iin : In_iin → Out_iin} (x0 : (Mode.inSh (.imm S_SpcTest)).den) : E_iSpcTest_ok g_iisTest g_iDecOk g_iDecCmp g_iin k (x0, ()) =
  (bif (g_iisTest (x0.1, ())).1 then (bif (g_iDecOk (x0.2.1, ())).1 then (bif (g_iDecOk (x0.2.2.1, ())).1 then (bif (decide ((g_iDecCmp (x0.2.1, (x0.2.2.1, ()))).1 ≤ (0 : Int))) then (some ((g_iin (x0.2.2.2, ((0 : Int), ((3 : Int), ())))).1, ())) else (some (false, ()))) else (some (false, ()))) else (some (false, ()))) else (some (false, ()))) := by kernel_rfl
theorem S_iSpcTest_ok {g_iisTest : In_iisTest → Out_iisTest} {g_iDecOk : In_iDecOk → Out_iDecOk} {g_iDecCmp : In_iDecCmp → Out_iDecCmp} {g_iin : In_iin → Out_iin} (h_iisTest : C_iisTest (fun _ => true) g_iisTest) (h_iDecOk : C_iDecOk (fun _ => true) g_iDecOk) (h_iDecCmp : C_iDecCmp (fun _ => true) g_iDecCmp) (h_iin : C_iin (fun _ => true) g_iin) {pre : In_iSpcTest_ok → Bool} {fn : In_iSpcTest_ok → Out_iSpcTest_ok} (hev : ∀ x, pre x = true → ∃ k, E_iSpcTest_ok g_iisTest g_iDecOk g_iDecCmp g_iin k x = some (fn x)) : C_iSpcTest_ok pre fn := sound tysOk mixed (fn := Try.f67) rfl rfl rfl (ConsOk.cons h_iisTest (ConsOk.cons h_iDecOk (ConsOk.cons h_iDecCmp (ConsOk.cons h_iin ConsOk.nil)))) _ hev
/-! iSpcTestsOk -/
abbrev In_iSpcTestsOk : Type := (insSh [.imm L_SpcTest]).den
abbrev Out_iSpcTestsOk : Type := (outSh [(.imm, .bool)] [.imm L_SpcTest]).den
abbrev K_iSpcTestsOk (pre : In_iSpcTestsOk → Bool) (fn : In_iSpcTestsOk → Out_iSpcTestsOk) : Con := ⟨[.imm L_SpcTest], [(.imm, .bool)], pre, fn⟩
abbrev C_iSpcTestsOk (pre : In_iSpcTestsOk → Bool) (fn : In_iSpcTestsOk → Out_iSpcTestsOk) : Prop := Sound Try.prog 21 (K_iSpcTestsOk pre fn)
abbrev X_iSpcTestsOk (g_iSpcTest_ok : In_iSpcTest_ok → Out_iSpcTest_ok) (g_iin : In_iin → Out_iin) : Ctx := ctx tys 34 (conOf [(67, K_iSpcTest_ok (fun _ => true) g_iSpcTest_ok), (70, K_iin (fun _ => true) g_iin)]) (keepOf [([false, true, false, true], (⟨[(0, .asis), (5, .asis), (6, .asis), (7, .asis)], [], []⟩ : Keep))]) (fun _ => [])
noncomputable abbrev E_iSpcTestsOk (g_iSpcTest_ok : In_iSpcTest_ok → Out_iSpcTest_ok) (g_iin : In_iin → Out_iin) (k : Nat) (x : In_iSpcTestsOk) : Option Out_iSpcTestsOk := evFn (X_iSpcTestsOk g_iSpcTest_ok g_iin) Try.f21 [(.imm, .bool)] [.imm L_SpcTest] k x
def h0_iSpcTestsOk (x0 : (Mode.inSh (.imm L_SpcTest)).den) (h0 : (Sh.den I)) (h1 : (Sh.den I)) : St := (St.mk (updL (fun _ => .unk) [(0, (AV.val L_SpcTest x0)), (5, (AV.val L_SpcTest x0)), (6, (AV.val I h0)), (7, (AV.val I h1))]) (updL (fun _ => .none) []))
noncomputable def r_iSpcTestsOk (g_iSpcTest_ok : In_iSpcTest_ok → Out_iSpcTest_ok) (g_iin : In_iin → Out_iin) (x : In_iSpcTestsOk) (k : Nat) (p : List Bool) (s : St) : Option Out_iSpcTestsOk := rounds (X_iSpcTestsOk g_iSpcTest_ok g_iin) Try.f21 [(.imm, .bool)] [.imm L_SpcTest] x k p s
theorem ev_iSpcTestsOk (k : Nat) {g_iSpcTest_ok : In_iSpcTest_ok → Out_iSpcTest_ok} {g_iin : In_iin → Out_iin} (x0 : (Mode.inSh (.imm L_SpcTest)).den) : E_iSpcTestsOk g_iSpcTest_ok g_iin k (x0, ()) =
  (r_iSpcTestsOk g_iSpcTest_ok g_iin (x0, ()) k [false, true, false, true] (h0_iSpcTestsOk x0 ((List.length x0 : Int)) (0 : Int))) := by kernel_rfl
theorem rd0_iSpcTestsOk (k : Nat) {g_iSpcTest_ok : In_iSpcTest_ok → Out_iSpcTest_ok} {g_iin : In_iin → Out_iin} (x0 : (Mode.inSh (.imm L_SpcTest)).den) (h0 : (Sh.den I)) (h1 : (Sh.den I)) : r_iSpcTestsOk g_iSpcTest_ok g_iin (x0, ()) (k + 1) [false, true, false, true] (h0_iSpcTestsOk x0 h0 h1) =
  (bif (decide (h1 < h0)) then (bif (bif (decide ((0 : Int) ≤ h1)) then (decide (h1 < ((List.length x0 : Int)))) else false) then (bif (bif (g_iSpcTest_ok ((rdL (e := S_SpcTest) x0 h1), ())).1 then false else true) then (some (false, ())) else (bif (decide ((0 : Int) < h1)) then (bif (bif (decide ((0 : Int) ≤ (w64 (h1 - (1 : Int))))) then (decide ((w64 (h1 - (1 : Int))) < ((List.length x0 : Int)))) else false) then (bif (decide ((rdL (e := S_SpcTest) x0 h1).1 ≤ (rdL (e := S_SpcTest) x0 (w64 (h1 - (1 : Int)))).1)) then (some (false, ())) else (r_iSpcTestsOk g_iSpcTest_ok g_iin (x0, ()) k [false, true, false, true] (h0_iSpcTestsOk x0 h0 (w64 (h1 + (1 : Int)))))) else none) else (r_iSpcTestsOk g_iSpcTest_ok g_iin (x0, ()) k [false, true, false, true] (h0_iSpcTestsOk x0 h0 (w64 (h1 + (1 : Int))))))) else none) else (some ((g_iin (((List.length x0 : Int)), ((1 : Int), ((4 : Int), ())))).1, ()))) := by kernel_rfl
theorem S_iSpcTestsOk {g_iSpcTest_ok : In_iSpcTest_ok → Out_iSpcTest_ok} {g_iin : In_iin → Out_iin} (h_iSpcTest_ok : C_iSpcTest_ok (fun _ => true) g_iSpcTest_ok) (h_iin : C_iin (fun _ => true) g_iin) {pre : In_iSpcTestsOk → Bool} {fn : In_iSpcTestsOk → Out_iSpcTestsOk} (hev : ∀ x, pre x = true → ∃ k, E_iSpcTestsOk g_iSpcTest_ok g_iin k x = some (fn x)) : C_iSpcTestsOk pre fn := sound tysOk mixed (fn := Try.f21) rfl rfl rfl (ConsOk.cons h_iSpcTest_ok (ConsOk.cons h_iin ConsOk.nil)) _ hev
/-! iSpcOk -/
abbrev In_iSpcOk : Type := (insSh [.imm L_SpcSpec]).den
abbrev Out_iSpcOk : Type := (outSh [(.imm, .bool)] [.imm L_SpcSpec]).den
abbrev K_iSpcOk (pre : In_iSpcOk → Bool) (fn : In_iSpcOk → Out_iSpcOk) : Con := ⟨[.imm L_SpcSpec], [(.imm, .bool)], pre, fn⟩
abbrev C_iSpcOk (pre : In_iSpcOk → Bool) (fn : In_iSpcOk → Out_iSpcOk) : Prop := Sound Try.prog 42 (K_iSpcOk pre fn)
abbrev X_iSpcOk (g_iSpcTestsOk : In_iSpcTestsOk → Out_iSpcTestsOk) (p_iSpcTestsOk : In_iSpcTestsOk → Bool) (g_iin : In_iin → Out_iin) : Ctx := ctx tys 35 (conOf [(21, K_iSpcTestsOk p_iSpcTestsOk g_iSpcTestsOk), (70, K_iin (fun _ => true) g_iin)]) (keepOf [([false, true, false, true, true], (⟨[(0, .asis), (3, .asis), (6, .asis), (7, .asis), (8, .asis)], [], []⟩ : Keep))]) (fun _ => [])
noncomputable abbrev E_iSpcOk (g_iSpcTestsOk : In_iSpcTestsOk → Out_iSpcTestsOk) (p_iSpcTestsOk : In_iSpcTestsOk → Bool) (g_iin : In_iin → Out_iin) (k : Nat) (x : In_iSpcOk) : Option Out_iSpcOk := evFn (X_iSpcOk g_iSpcTestsOk p_iSpcTestsOk g_iin) Try.f42 [(.imm, .bool)] [.imm L_SpcSpec] k x
def h0_iSpcOk (x0 : (Mode.inSh (.imm L_SpcSpec)).den) (h0 : (Sh.den I)) (h1 : (Sh.den I)) (h2 : (Sh.den I)) : St := (St.mk (updL (fun _ => .unk) [(0, (AV.val L_SpcSpec x0)), (3, (AV.val I h0)), (6, (AV.val L_SpcSpec x0)), (7, (AV.val I h1)), (8, (AV.val I h2))]) (updL (fun _ => .none) []))
noncomputable def r_iSpcOk (g_iSpcTestsOk : In_iSpcTestsOk → Out_iSpcTestsOk) (p_iSpcTestsOk : In_iSpcTestsOk → Bool) (g_iin : In_iin → Out_iin) (x : In_iSpcOk) (k : Nat) (p : List Bool) (s : St) : Option Out_iSpcOk := rounds (X_iSpcOk g_iSpcTestsOk p_iSpcTestsOk g_iin) Try.f42 [(.imm, .bool)] [.imm L_SpcSpec] x k p s
theorem ev_iSpcOk (k : Nat) {g_iSpcTestsOk : In_iSpcTestsOk → Out_iSpcTestsOk} {p_iSpcTestsOk : In_iSpcTestsOk → Bool} {g_iin : In_iin → Out_iin} (x0 : (Mode.inSh (.imm L_SpcSpec)).den) : E_iSpcOk g_iSpcTestsOk p_iSpcTestsOk g_iin k (x0, ()) =
  (r_iSpcOk g_iSpcTestsOk p_iSpcTestsOk g_iin (x0, ()) k [false, true, false, true, true] (h0_iSpcOk x0 (0 : Int) ((List.length x0 : Int)) (0 : Int))) := by kernel_rfl
theorem rd0_iSpcOk (k : Nat) {g_iSpcTestsOk : In_iSpcTestsOk → Out_iSpcTestsOk} {p_iSpcTestsOk : In_iSpcTestsOk → Bool} {g_iin : In_iin → Out_iin} (x0 : (Mode.inSh (.imm L_SpcSpec)).den) (h0 : (Sh.den I)) (h1 : (Sh.den I)) (h2 : (Sh.den I)) : r_iSpcOk g_iSpcTestsOk p_iSpcTestsOk g_iin (x0, ()) (k + 1) [false, true, false, true, true] (h0_iSpcOk x0 h0 h1 h2) =
  (bif (decide (h2 < h1)) then (bif (bif (decide ((0 : Int) ≤ h2)) then (decide (h2 < ((List.length x0 : Int)))) else false) then (bif (p_iSpcTestsOk ((rdL (e := S_SpcSpec) x0 h2).1, ())) then (bif (bif (g_iSpcTestsOk ((rdL (e := S_SpcSpec) x0 h2).1, ())).1 then false else true) then (some (false, ())) else (bif (bif (g_iin ((rdL (e := S_SpcSpec) x0 h2).2, ((1 : Int), ((3 : Int), ())))).1 then false else true) then (some (false, ())) else (bif (decide ((rdL (e := S_SpcSpec) x0 h2).2 = (2 : Int))) then (r_iSpcOk g_iSpcTestsOk p_iSpcTestsOk g_iin (x0, ()) k [false, true, false, true, true] (h0_iSpcOk x0 (w64 (h0 + (1 : Int))) h1 (w64 (h2 + (1 : Int))))) else (r_iSpcOk g_iSpcTestsOk p_iSpcTestsOk g_iin (x0, ()) k [false, true, false, true, true] (h0_iSpcOk x0 h0 h1 (w64 (h2 + (1 : Int)))))))) else none) else none) else (bif (decide (((List.length x0 : Int)) ≤ (6 : Int))) then (some ((decide (h0 ≤ (1 : Int))), ())) else (some (false, ())))) := by kernel_rfl
theorem S_iSpcOk {g_iSpcTestsOk : In_iSpcTestsOk → Out_iSpcTestsOk} {p_iSpcTestsOk : In_iSpcTestsOk → Bool} {g_iin : In_iin → Out_iin} (h_iSpcTestsOk : C_iSpcTestsOk p_iSpcTestsOk g_iSpcTestsOk) (h_iin : C_iin (fun _ => true) g_iin) {pre : In_iSpcOk → Bool} {fn : In_iSpcOk → Out_iSpcOk} (hev : ∀ x, pre x = true → ∃ k, E_iSpcOk g_iSpcTestsOk p_iSpcTestsOk g_iin k x = some (fn x)) : C_iSpcOk pre fn := sound tysOk mixed (fn := Try.f42) rfl rfl rfl (ConsOk.cons h_iSpcTestsOk (ConsOk.cons h_iin ConsOk.nil)) _ hev
/-! leqDecDec -/
abbrev In_leqDecDec : Type := (insSh [.imm S_DecDec, .imm S_DecDec]).den
abbrev Out_leqDecDec : Type := (outSh [(.imm, .bool)] [.imm S_DecDec, .imm S_DecDec]).den
abbrev K_leqDecDec (pre : In_leqDecDec → Bool) (fn : In_leqDecDec → Out_leqDecDec) : Con := ⟨[.imm S_DecDec, .imm S_DecDec], [(.imm, .bool)], pre, fn⟩
abbrev C_leqDecDec (pre : In_leqDecDec → Bool) (fn : In_leqDecDec → Out_leqDecDec) : Prop := Sound Try.prog 63 (K_leqDecDec pre fn)
abbrev X_leqDecDec  : Ctx := ctx tys 15 (conOf []) (keepOf []) (fun _ => [])
noncomputable abbrev E_leqDecDec  (k : Nat) (x : In_leqDecDec) : Option Out_leqDecDec := evFn X_leqDecDec Try.f63 [(.imm, .bool)] [.imm S_DecDec, .imm S_DecDec] k x
theorem ev_leqDecDec (k : Nat)  (x0 : (Mode.inSh (.imm S_DecDec)).den) (x1 : (Mode.inSh (.imm S_DecDec)).den) : E_leqDecDec k (x0, x1, ()) =
  (bif (bif (decide (x0.1 = x1.1)) then false else true) then (some (false, ())) else (bif (bif (decide (x0.2 = x1.2)) then false else true) then (some (false, ())) else (some (true, ())))) := by kernel_rfl
theorem S_leqDecDec   {pre : In_leqDecDec → Bool} {fn : In_leqDecDec → Out_leqDecDec} (hev : ∀ x, pre x = true → ∃ k, E_leqDecDec k x = some (fn x)) : C_leqDecDec pre fn := sound tysOk mixed (fn := Try.f63) rfl rfl rfl ConsOk.nil _ hev
/-! leqSpcTest -/
abbrev In_leqSpcTest : Type := (insSh [.imm S_SpcTest, .imm S_SpcTest]).den
abbrev Out_leqSpcTest : Type := (outSh [(.imm, .bool)] [.imm S_SpcTest, .imm S_SpcTest]).den
abbrev K_leqSpcTest (pre : In_leqSpcTest → Bool) (fn : In_leqSpcTest → Out_leqSpcTest) : Con := ⟨[.imm S_SpcTest, .imm S_SpcTest], [(.imm, .bool)], pre, fn⟩
abbrev C_leqSpcTest (pre : In_leqSpcTest → Bool) (fn : In_leqSpcTest → Out_leqSpcTest) : Prop := Sound Try.prog 71 (K_leqSpcTest pre fn)
abbrev X_leqSpcTest (g_leqDecDec : In_leqDecDec → Out_leqDecDec) : Ctx := ctx tys 27 (conOf [(63, K_leqDecDec (fun _ => true) g_leqDecDec)]) (keepOf []) (fun _ => [])
noncomputable abbrev E_leqSpcTest (g_leqDecDec : In_leqDecDec → Out_leqDecDec) (k : Nat) (x : In_leqSpcTest) : Option Out_leqSpcTest := evFn (X_leqSpcTest g_leqDecDec) Try.f71 [(.imm, .bool)] [.imm S_SpcTest, .imm S_SpcTest] k x
theorem ev_leqSpcTest (k : Nat) {g_leqDecDec : In_leqDecDec → Out_leqDecDec} (x0 : (Mode.inSh (.imm S_SpcTest)).den) (x1 : (Mode.inSh (.imm S_SpcTest)).den) : E_leqSpcTest g_leqDecDec k (x0, x1, ()) =
  (bif (bif (decide (x0.1 = x1.1)) then false else true) then (some (false, ())) else (bif (bif (g_leqDecDec (x0.2.1, (x1.2.1, ()))).1 then false else true) then (some (false, ())) else (bif (bif (g_leqDecDec (x0.2.2.1, (x1.2.2.1, ()))).1 then false else true) then (some (false, ())) else (bif (bif (decide (x0.2.2.2 = x1.2.2.2)) then false else true) then (some (false, ())) else (some (true, ())))))) := by kernel_rfl
theorem S_leqSpcTest {g_leqDecDec : In_leqDecDec → Out_leqDecDec} (h_leqDecDec : C_leqDecDec (fun _ => true) g_leqDecDec) {pre : In_leqSpcTest → Bool} {fn : In_leqSpcTest → Out_leqSpcTest} (hev : ∀ x, pre x = true → ∃ k, E_leqSpcTest g_leqDecDec k x = some (fn x)) : C_leqSpcTest pre fn := sound tysOk mixed (fn := Try.f71) rfl rfl rfl (ConsOk.cons h_leqDecDec ConsOk.nil) _ hev
/-! leqSpcTestS -/
abbrev In_leqSpcTestS : Type := (insSh [.imm L_SpcTest, .imm L_SpcTest]).den
abbrev Out_leqSpcTestS : Type := (outSh [(.imm, .bool)] [.imm L_SpcTest, .imm L_SpcTest]).den
abbrev K_leqSpcTestS (pre : In_leqSpcTestS → Bool) (fn : In_leqSpcTestS → Out_leqSpcTestS) : Con := ⟨[.imm L_SpcTest, .imm L_SpcTest], [(.imm, .bool)], pre, fn⟩
abbrev C_leqSpcTestS (pre : In_leqSpcTestS → Bool) (fn : In_leqSpcTestS → Out_leqSpcTestS) : Prop := Sound Try.prog 22 (K_leqSpcTestS pre fn)
abbrev X_leqSpcTestS (g_leqSpcTest : In_leqSpcTest → Out_leqSpcTest) : Ctx := ctx tys 27 (conOf [(71, K_leqSpcTest (fun _ => true) g_leqSpcTest)]) (keepOf [([false, true, false, true, true], (⟨[(0, .asis), (1, .asis), (5, .asis)], [], []⟩ : Keep))]) (fun _ => [])
noncomputable abbrev E_leqSpcTestS (g_leqSpcTest : In_leqSpcTest → Out_leqSpcTest) (k : Nat) (x : In_leqSpcTestS) : Option Out_leqSpcTestS := evFn (X_leqSpcTestS g_leqSpcTest) Try.f22 [(.imm, .bool)] [.imm L_SpcTest, .imm L_SpcTest] k x
def h0_leqSpcTestS (x0 : (Mode.inSh (.imm L_SpcTest)).den) (x1 : (Mode.inSh (.imm L_SpcTest)).den) (h0 : (Sh.den I)) : St := (St.mk (updL (fun _ => .unk) [(0, (AV.val L_SpcTest x0)), (1, (AV.val L_SpcTest x1)), (5, (AV.val I h0))]) (updL (fun _ => .none) []))
noncomputable def r_leqSpcTestS (g_leqSpcTest : In_leqSpcTest → Out_leqSpcTest) (x : In_leqSpcTestS) (k : Nat) (p : List Bool) (s : St) : Option Out_leqSpcTestS := rounds (X_leqSpcTestS g_leqSpcTest) Try.f22 [(.imm, .bool)] [.imm L_SpcTest, .imm L_SpcTest] x k p s
theorem ev_leqSpcTestS (k : Nat) {g_leqSpcTest : In_leqSpcTest → Out_leqSpcTest} (x0 : (Mode.inSh (.imm L_SpcTest)).den) (x1 : (Mode.inSh (.imm L_SpcTest)).den) : E_leqSpcTestS g_leqSpcTest k (x0, x1, ()) =
  (bif (bif (decide (((List.length x0 : Int)) = ((List.length x1 : Int)))) then false else true) then (some (false, ())) else (r_leqSpcTestS g_leqSpcTest (x0, x1, ()) k [false, true, false, true, true] (h0_leqSpcTestS x0 x1 (0 : Int)))) := by kernel_rfl
theorem rd0_leqSpcTestS (k : Nat) {g_leqSpcTest : In_leqSpcTest → Out_leqSpcTest} (x0 : (Mode.inSh (.imm L_SpcTest)).den) (x1 : (Mode.inSh (.imm L_SpcTest)).den) (h0 : (Sh.den I)) : r_leqSpcTestS g_leqSpcTest (x0, x1, ()) (k + 1) [false, true, false, true, true] (h0_leqSpcTestS x0 x1 h0) =
  (bif (decide (h0 < ((List.length x0 : Int)))) then (bif (bif (decide ((0 : Int) ≤ h0)) then (decide (h0 < ((List.length x0 : Int)))) else false) then (bif (bif (decide ((0 : Int) ≤ h0)) then (decide (h0 < ((List.length x1 : Int)))) else false) then (bif (bif (g_leqSpcTest ((rdL (e := S_SpcTest) x0 h0), ((rdL (e := S_SpcTest) x1 h0), ()))).1 then false else true) then (some (false, ())) else (r_leqSpcTestS g_leqSpcTest (x0, x1, ()) k [false, true, false, true, true] (h0_leqSpcTestS x0 x1 (w64 (h0 + (1 : Int)))))) else none) else none) else (some (true, ()))) := by kernel_rfl
theorem S_leqSpcTestS {g_leqSpcTest : In_leqSpcTest → Out_leqSpcTest} (h_leqSpcTest : C_leqSpcTest (fun _ => true) g_leqSpcTest) {pre : In_leqSpcTestS → Bool} {fn : In_leqSpcTestS → Out_leqSpcTestS} (hev : ∀ x, pre x = true → ∃ k, E_leqSpcTestS g_leqSpcTest k x = some (fn x)) : C_leqSpcTestS pre fn := sound tysOk mixed (fn := Try.f22) rfl rfl rfl (ConsOk.cons h_leqSpcTest ConsOk.nil) _ hev
/-! leqSpcSpec -/
abbrev In_leqSpcSpec : Type := (insSh [.imm S_SpcSpec, .imm S_SpcSpec]).den
abbrev Out_leqSpcSpec : Type := (outSh [(.imm, .bool)] [.imm S_SpcSpec, .imm S_SpcSpec]).den
abbrev K_leqSpcSpec (pre : In_leqSpcSpec → Bool) (fn : In_leqSpcSpec → Out_leqSpcSpec) : Con := ⟨[.imm S_SpcSpec, .imm S_SpcSpec], [(.imm, .bool)], pre, fn⟩
abbrev C_leqSpcSpec (pre : In_leqSpcSpec → Bool) (fn : In_leqSpcSpec → Out_leqSpcSpec) : Prop := Sound Try.prog 91 (K_leqSpcSpec pre fn)
abbrev X_leqSpcSpec (g_leqSpcTestS : In_leqSpcTestS → Out_leqSpcTestS) (p_leqSpcTestS : In_leqSpcTestS → Bool) : Ctx := ctx tys 16 (conOf [(22, K_leqSpcTestS p_leqSpcTestS g_leqSpcTestS)]) (keepOf []) (fun _ => [])
noncomputable abbrev E_leqSpcSpec (g_leqSpcTestS : In_leqSpcTestS → Out_leqSpcTestS) (p_leqSpcTestS : In_leqSpcTestS → Bool) (k : Nat) (x : In_leqSpcSpec) : Option Out_leqSpcSpec := evFn (X_leqSpcSpec g_leqSpcTestS p_leqSpcTestS) Try.f91 [(.imm, .bool)] [.imm S_SpcSpec, .imm S_SpcSpec] k x
theorem ev_leqSpcSpec (k : Nat) {g_leqSpcTestS : In_leqSpcTestS → Out_leqSpcTestS} {p_leqSpcTestS : In_leqSpcTestS → Bool} (x0 : (Mode.inSh (.imm S_SpcSpec)).den) (x1 : (Mode.inSh (.imm S_SpcSpec)).den) : E_leqSpcSpec g_leqSpcTestS p_leqSpcTestS k (x0, x1, ()) =
  (bif (p_leqSpcTestS (x0.1, (x1.1, ()))) then (bif (bif (g_leqSpcTestS (x0.1, (x1.1, ()))).1 then false else true) then (some (false, ())) else (bif (bif (decide (x0.2 = x1.2)) then false else true) then (some (false, ())) else (some (true, ())))) else none) := by kernel_rfl
theorem S_leqSpcSpec {g_leqSpcTestS : In_leqSpcTestS → Out_leqSpcTestS} {p_leqSpcTestS : In_leqSpcTestS → Bool} (h_leqSpcTestS : C_leqSpcTestS p_leqSpcTestS g_leqSpcTestS) {pre : In_leqSpcSpec → Bool} {fn : In_leqSpcSpec → Out_leqSpcSpec} (hev : ∀ x, pre x = true → ∃ k, E_leqSpcSpec g_leqSpcTestS p_leqSpcTestS k x = some (fn x)) : C_leqSpcSpec pre fn := sound tysOk mixed (fn := Try.f91) rfl rfl rfl (ConsOk.cons h_leqSpcTestS ConsOk.nil) _ hev
/-! leqSpcSpecS -/
abbrev In_leqSpcSpecS : Type := (insSh [.imm L_SpcSpec, .imm L_SpcSpec]).den
abbrev Out_leqSpcSpecS : Type := (outSh [(.imm, .bool)] [.imm L_SpcSpec, .imm L_SpcSpec]).den
abbrev K_leqSpcSpecS (pre : In_leqSpcSpecS → Bool) (fn : In_leqSpcSpecS → Out_leqSpcSpecS) : Con := ⟨[.imm L_SpcSpec, .imm L_SpcSpec], [(.imm, .bool)], pre, fn⟩
abbrev C_leqSpcSpecS (pre : In_leqSpcSpecS → Bool) (fn : In_leqSpcSpecS → Out_leqSpcSpecS) : Prop := Sound Try.prog 43 (K_leqSpcSpecS pre fn)
abbrev X_leqSpcSpecS (g_leqSpcSpec : In_leqSpcSpec → Out_leqSpcSpec) (p_leqSpcSpec : In_leqSpcSpec → Bool) : Ctx := ctx tys 27 (conOf [(91, K_leqSpcSpec p_leqSpcSpec g_leqSpcSpec)]) (keepOf [([false, true, false, true, true], (⟨[(0, .asis), (1, .asis), (5, .asis)], [], []⟩ : Keep))]) (fun _ => [])
noncomputable abbrev E_leqSpcSpecS (g_leqSpcSpec : In_leqSpcSpec → Out_leqSpcSpec) (p_leqSpcSpec : In_leqSpcSpec → Bool) (k : Nat) (x : In_leqSpcSpecS) : Option Out_leqSpcSpecS := evFn (X_leqSpcSpecS g_leqSpcSpec p_leqSpcSpec) Try.f43 [(.imm, .bool)] [.imm L_SpcSpec, .imm L_SpcSpec] k x
def h0_leqSpcSpecS (x0 : (Mode.inSh (.imm L_SpcSpec)).den) (x1 : (Mode.inSh (.imm L_SpcSpec)).den) (h0 : (Sh.den I)) : St := (St.mk (updL (fun _ => .unk) [(0, (AV.val L_SpcSpec x0)), (1, (AV.val L_SpcSpec x1)), (5, (AV.val I h0))]) (updL (fun _ => .none) []))
noncomputable def r_leqSpcSpecS (g_leqSpcSpec : In_leqSpcSpec → Out_leqSpcSpec) (p_leqSpcSpec : In_leqSpcSpec → Bool) (x : In_leqSpcSpecS) (k : Nat) (p : List Bool) (s : St) : Option Out_leqSpcSpecS := rounds (X_leqSpcSpecS g_leqSpcSpec p_leqSpcSpec) Try.f43 [(.imm, .bool)] [.imm L_SpcSpec, .imm L_SpcSpec] x k p s
theorem ev_leqSpcSpecS (k : Nat) {g_leqSpcSpec : In_leqSpcSpec → Out_leqSpcSpec} {p_leqSpcSpec : In_leqSpcSpec → Bool} (x0 : (Mode.inSh (.imm L_SpcSpec)).den) (x1 : (Mode.inSh (.imm L_SpcSpec)).den) : E_leqSpcSpecS g_leqSpcSpec p_leqSpcSpec k (x0, x1, ()) =
  (bif (bif (decide (((List.length x0 : Int)) = ((List.length x1 : Int)))) then false else true) then (some (false, ())) else (r_leqSpcSpecS g_leqSpcSpec p_leqSpcSpec (x0, x1, ()) k [false, true, false, true, true] (h0_leqSpcSpecS x0 x1 (0 : Int)))) := by kernel_rfl
theorem rd0_leqSpcSpecS (k : Nat) {g_leqSpcSpec : In_leqSpcSpec → Out_leqSpcSpec} {p_leqSpcSpec : In_leqSpcSpec → Bool} (x0 : (Mode.inSh (.imm L_SpcSpec)).den) (x1 : (Mode.inSh (.imm L_SpcSpec)).den) (h0 : (Sh.den I)) : r_leqSpcSpecS g_leqSpcSpec p_leqSpcSpec (x0, x1, ()) (k + 1) [false, true, false, true, true] (h0_leqSpcSpecS x0 x1 h0) =
  (bif (decide (h0 < ((List.length x0 : Int)))) then (bif (bif (decide ((0 : Int) ≤ h0)) then (decide (h0 < ((List.length x0 : Int)))) else false) then (bif (bif (decide ((0 : Int) ≤ h0)) then (decide (h0 < ((List.length x1 : Int)))) else false) then (bif (p_leqSpcSpec ((rdL (e := S_SpcSpec) x0 h0), ((rdL (e := S_SpcSpec) x1 h0), ()))) then (bif (bif (g_leqSpcSpec ((rdL (e := S_SpcSpec) x0 h0), ((rdL (e := S_SpcSpec) x1 h0), ()))).1 then false else true) then (some (false, ())) else (r_leqSpcSpecS g_leqSpcSpec p_leqSpcSpec (x0, x1, ()) k [false, true, false, true, true] (h0_leqSpcSpecS x0 x1 (w64 (h0 + (1 : Int)))))) else none) else none) else none) else (some (true, ()))) := by kernel_rfl
theorem S_leqSpcSpecS {g_leqSpcSpec : In_leqSpcSpec → Out_leqSpcSpec} {p_leqSpcSpec : In_leqSpcSpec → Bool} (h_leqSpcSpec : C_leqSpcSpec p_leqSpcSpec g_leqSpcSpec) {pre : In_leqSpcSpecS → Bool} {fn : In_leqSpcSpecS → Out_leqSpcSpecS} (hev : ∀ x, pre x = true → ∃ k, E_leqSpcSpecS g_leqSpcSpec p_leqSpcSpec k x = some (fn x)) : C_leqSpcSpecS pre fn := sound tysOk mixed (fn := Try.f43) rfl rfl rfl (ConsOk.cons h_leqSpcSpec ConsOk.nil) _ hev
/-! lFnExactSpcOk -/
abbrev In_lFnExactSpcOk : Type := (insSh [.imm L_lSpcSpec]).den
abbrev Out_lFnExactSpcOk : Type := (outSh [(.own, .bool)] [.imm L_lSpcSpec]).den
abbrev K_lFnExactSpcOk (pre : In_lFnExactSpcOk → Bool) (fn : In_lFnExactSpcOk → Out_lFnExactSpcOk) : Con := ⟨[.imm L_lSpcSpec], [(.own, .bool)], pre, fn⟩
abbrev C_lFnExactSpcOk (pre : In_lFnExactSpcOk → Bool) (fn : In_lFnExactSpcOk → Out_lFnExactSpcOk) : Prop := Sound Try.prog 8 (K_lFnExactSpcOk pre fn)
abbrev X_lFnExactSpcOk (g_lszSpcSpecS : In_lszSpcSpecS → Out_lszSpcSpecS) (p_lszSpcSpecS : In_lszSpcSpecS → Bool) (g_ltoSpcSpecS : In_ltoSpcSpecS → Out_ltoSpcSpecS) (p_ltoSpcSpecS : In_ltoSpcSpecS → Bool) (g_sSpcOk : In_sSpcOk → Out_sSpcOk) (g_iSpcOk : In_iSpcOk → Out_iSpcOk) (p_iSpcOk : In_iSpcOk → Bool) (g_leqSpcSpecS : In_leqSpcSpecS → Out_leqSpcSpecS) (p_leqSpcSpecS : In_leqSpcSpecS → Bool) : Ctx := ctx tys 27 (conOf [(39, K_lszSpcSpecS p_lszSpcSpecS g_lszSpcSpecS), (41, K_ltoSpcSpecS p_ltoSpcSpecS g_ltoSpcSpecS), (40, K_sSpcOk (fun _ => true) g_sSpcOk), (42, K_iSpcOk p_iSpcOk g_iSpcOk), (43, K_leqSpcSpecS p_leqSpcSpecS g_leqSpcSpecS)]) (keepOf []) (fun _ => [])
noncomputable abbrev E_lFnExactSpcOk (g_lszSpcSpecS : In_lszSpcSpecS → Out_lszSpcSpecS) (p_lszSpcSpecS : In_lszSpcSpecS → Bool) (g_ltoSpcSpecS : In_ltoSpcSpecS → Out_ltoSpcSpecS) (p_ltoSpcSpecS : In_ltoSpcSpecS → Bool) (g_sSpcOk : In_sSpcOk → Out_sSpcOk) (g_iSpcOk : In_iSpcOk → Out_iSpcOk) (p_iSpcOk : In_iSpcOk → Bool) (g_leqSpcSpecS : In_leqSpcSpecS → Out_leqSpcSpecS) (p_leqSpcSpecS : In_leqSpcSpecS → Bool) (k : Nat) (x : In_lFnExactSpcOk) : Option Out_lFnExactSpcOk := evFn (X_lFnExactSpcOk g_lszSpcSpecS p_lszSpcSpecS g_ltoSpcSpecS p_ltoSpcSpecS g_sSpcOk g_iSpcOk p_iSpcOk g_leqSpcSpecS p_leqSpcSpecS) Try.f8 [(.own, .bool)] [.imm L_lSpcSpec] k x
theorem ev_lFnExactSpcOk (k : Nat) {g_lszSpcSpecS : In_lszSpcSpecS → Out_lszSpcSpecS} {p_lszSpcSpecS : In_lszSpcSpecS → Bool} {g_ltoSpcSpecS : In_ltoSpcSpecS → Out_ltoSpcSpecS} {p_ltoSpcSpecS : In_ltoSpcSpecS → Bool} {g_sSpcOk : In_sSpcOk → Out_sSpcOk} {g_iSpcOk : In_iSpcOk → Out_iSpcOk} {p_iSpcOk : In_iSpcOk → Bool} {g_leqSpcSpecS : In_leqSpcSpecS → Out_leqSpcSpecS} {p_leqSpcSpecS : In_leqSpcSpecS → Bool} (x0 : (Mode.inSh (.imm L_lSpcSpec)).den) : E_lFnExactSpcOk g_lszSpcSpecS p_lszSpcSpecS g_ltoSpcSpecS p_ltoSpcSpecS g_sSpcOk g_iSpcOk p_iSpcOk g_leqSpcSpecS p_leqSpcSpecS k (x0, ()) =
  (bif (p_lszSpcSpecS (x0, ((1048576 : Int), ()))) then (bif (decide ((g_lszSpcSpecS (x0, ((1048576 : Int), ()))).1 < (0 : Int))) then (some (true, ())) else (bif (p_ltoSpcSpecS (x0, ())) then (bif (p_ltoSpcSpecS (x0, ())) then (bif (p_iSpcOk ((g_ltoSpcSpecS (x0, ())).1, ())) then (bif (bif ((g_iSpcOk ((g_ltoSpcSpecS (x0, ())).1, ())).1 == (g_sSpcOk ((g_ltoSpcSpecS (x0, ())).1, ())).1) then false else true) then (some (false, ())) else (bif (p_ltoSpcSpecS (x0, ())) then (bif (p_leqSpcSpecS ((g_ltoSpcSpecS (x0, ())).1, ((g_ltoSpcSpecS (x0, ())).1, ()))) then (bif (bif (g_leqSpcSpecS ((g_ltoSpcSpecS (x0, ())).1, ((g_ltoSpcSpecS (x0, ())).1, ()))).1 then false else true) then (some (false, ())) else (some (true, ()))) else none) else none)) else none) else none) else none)) else none) := by kernel_rfl
theorem S_lFnExactSpcOk {g_lszSpcSpecS : In_lszSpcSpecS → Out_lszSpcSpecS} {p_lszSpcSpecS : In_lszSpcSpecS → Bool} {g_ltoSpcSpecS : In_ltoSpcSpecS → Out_ltoSpcSpecS} {p_ltoSpcSpecS : In_ltoSpcSpecS → Bool} {g_sSpcOk : In_sSpcOk → Out_sSpcOk} {g_iSpcOk : In_iSpcOk → Out_iSpcOk} {p_iSpcOk : In_iSpcOk → Bool} {g_leqSpcSpecS : In_leqSpcSpecS → Out_leqSpcSpecS} {p_leqSpcSpecS : In_leqSpcSpecS → Bool} (h_lszSpcSpecS : C_lszSpcSpecS p_lszSpcSpecS g_lszSpcSpecS) (h_ltoSpcSpecS : C_ltoSpcSpecS p_ltoSpcSpecS g_ltoSpcSpecS) (h_sSpcOk : C_sSpcOk (fun _ => true) g_sSpcOk) (h_iSpcOk : C_iSpcOk p_iSpcOk g_iSpcOk) (h_leqSpcSpecS : C_leqSpcSpecS p_leqSpcSpecS g_leqSpcSpecS) {pre : In_lFnExactSpcOk → Bool} {fn : In_lFnExactSpcOk → Out_lFnExactSpcOk} (hev : ∀ x, pre x = true → ∃ k, E_lFnExactSpcOk g_lszSpcSpecS p_lszSpcSpecS g_ltoSpcSpecS p_ltoSpcSpecS g_sSpcOk g_iSpcOk p_iSpcOk g_leqSpcSpecS p_leqSpcSpecS k x = some (fn x)) : C_lFnExactSpcOk pre fn := sound tysOk mixed (fn := Try.f8) rfl rfl rfl (ConsOk.cons h_lszSpcSpecS (ConsOk.cons h_ltoSpcSpecS (ConsOk.cons h_sSpcOk (ConsOk.cons h_iSpcOk (ConsOk.cons h_leqSpcSpecS ConsOk.nil))))) _ hev
end Go.Proofs.Ytkjimaolpijoiaa
