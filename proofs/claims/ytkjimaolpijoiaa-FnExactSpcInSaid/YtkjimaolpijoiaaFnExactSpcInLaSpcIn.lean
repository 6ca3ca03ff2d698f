/- SpcIn of the program returns what the reference's returns. -/
import Derived.Test.YtkjimaolpijoiaaFnExactSpcInSn2
set_option linter.unusedVariables false
set_option linter.unusedSimpArgs false
namespace Go.Proofs.Ytkjimaolpijoiaa
open Go.Vm
theorem s_ltoDecDec : C_ltoDecDec (fun _ => true) (fun x => (x.1, ())) := S_ltoDecDec fun x _ => ⟨0, ev_ltoDecDec 0 x.1⟩
theorem s_ltoSpcTest : C_ltoSpcTest (fun _ => true) (fun x => (x.1, ())) := S_ltoSpcTest s_ltoDecDec fun x _ => ⟨0, ev_ltoSpcTest 0 x.1⟩
theorem s_lFnExactSpcIn : C_lFnExactSpcIn (lawPre _) (fun _ => (true, ())) := S_lFnExactSpcIn s_ltoSpcTest s_ltoDecDec s_sSpcIn s_iSpcIn fun x _ => ⟨0, (ev_lFnExactSpcIn 0 x.1 x.2.1).trans (by
  simp only [beq_self_eq_true, cond_true, cond_false])⟩

end Go.Proofs.Ytkjimaolpijoiaa
