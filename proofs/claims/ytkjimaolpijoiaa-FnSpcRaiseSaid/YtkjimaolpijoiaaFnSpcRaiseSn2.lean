/- The contracts: decimals, what is asked of a test. -/
import Derived.Test.YtkjimaolpijoiaaFnSpcRaiseSn1
set_option linter.unusedVariables false
set_option linter.unusedSimpArgs false
namespace Go.Proofs.Ytkjimaolpijoiaa
open Go.Vm

theorem s_iDecOk : C_iDecOk (fun _ => true) (fun x => (decOk x.1, ())) := S_iDecOk s_iin s_ipower fun x _ => ⟨0, (ev_iDecOk 0 x.1).trans (p_decOk x.1)⟩
theorem s_sDecOk : C_sDecOk (fun _ => true) (fun x => (decOk x.1, ())) := S_sDecOk s_sl1In s_sl1Ten fun x _ => ⟨0, (ev_sDecOk 0 x.1).trans (p_decOk x.1)⟩
theorem s_iDecAt : C_iDecAt (fun _ => true) (fun x => (decAt x.1 x.2.1, ())) := S_iDecAt s_iDecOk s_iin s_ipower s_inearest fun x _ => ⟨0, (ev_iDecAt 0 x.1 x.2.1).trans (p_decAt x.1 x.2.1 _ fun h1 h2 => p_atR h1 h2)⟩
theorem s_sl1At : C_sl1At (fun x => decOk x.1 && inq x.2.1 0 3) (fun x => (atR x.1 x.2.1, ())) := S_sl1At s_sl1Ten s_sl1Near fun x hx => ⟨0, (ev_sl1At 0 x.1 x.2.1).trans (p_atR (Bool.and_eq_true_iff.1 hx).1 (Bool.and_eq_true_iff.1 hx).2)⟩
theorem s_gisNaN_int : C_gisNaN_int (fun _ => true) (fun _ => (false, ())) := S_gisNaN_int fun x _ => ⟨0, (ev_gisNaN_int 0 x.1).trans (by
  rw [decide_eq_true rfl]; rfl)⟩
theorem s_gCompare_int : C_gCompare_int (fun _ => true) (fun x => (cmpI x.1 x.2.1, ())) := S_gCompare_int s_gisNaN_int fun x _ => ⟨0, (ev_gCompare_int 0 x.1 x.2.1).trans (p_cmpI x.1 x.2.1)⟩
theorem s_iDecCmp : C_iDecCmp (fun _ => true) (fun x => (decCmp x.1 x.2.1, ())) := S_iDecCmp s_iDecOk s_iDecAt s_gCompare_int fun x _ => ⟨0, (ev_iDecCmp 0 x.1 x.2.1).trans (p_decCmp x.1 x.2.1 _ fun h1 h2 => by
  unfold decAt
  simp only [h1, h2, in03, Bool.and_self, cond_true])⟩
theorem s_sDecCmp : C_sDecCmp (fun _ => true) (fun x => (decCmp x.1 x.2.1, ())) := S_sDecCmp s_sDecOk s_sl1At fun x _ => ⟨0, (ev_sDecCmp 0 x.1 x.2.1).trans (p_decCmp x.1 x.2.1 _ fun h1 h2 => by
  simp only [h1, h2, in03, Bool.and_self, cond_true]
  exact p_cmpI _ _)⟩
theorem s_iisTest : C_iisTest (fun _ => true) (fun x => (inq x.1 1 4, ())) := S_iisTest s_iin fun x _ => ⟨0, ev_iisTest 0 x.1⟩
theorem s_iSpcTest_ok : C_iSpcTest_ok (fun _ => true) (fun x => (askOk x.1, ())) := S_iSpcTest_ok s_iisTest s_iDecOk s_iDecCmp s_iin fun x _ => ⟨0, (ev_iSpcTest_ok 0 x.1).trans (by
  simp only [bif_some, bif_pair, bif_and]; rfl)⟩
theorem s_sl3Test : C_sl3Test (fun _ => true) (fun x => (askOk x.1, ())) := S_sl3Test s_sl1In s_sDecOk s_sDecCmp fun x _ => ⟨0, (ev_sl3Test 0 x.1).trans (by
  simp only [bif_some, bif_pair, bif_and]; rfl)⟩
end Go.Proofs.Ytkjimaolpijoiaa
