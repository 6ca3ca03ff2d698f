/- SpcTestsOk of the program returns what the reference's returns. -/
import Derived.Test.YtkjimaolpijoiaaFnExactSpcTestsOkSn3
set_option linter.unusedVariables false
set_option linter.unusedSimpArgs false
namespace Go.Proofs.Ytkjimaolpijoiaa
open Go.Vm
theorem s_lFnExactSpcTestsOk : C_lFnExactSpcTestsOk (lawPre _) (fun _ => (true, ())) := S_lFnExactSpcTestsOk s_lszSpcTestS s_ltoSpcTestS s_sSpcTestsOk s_iSpcTestsOk s_leqSpcTestS fun x hx => ⟨0, (ev_lFnExactSpcTestsOk 0 x.1).trans (by
  have hw : List.length x.1 ≤ maxLen := (lawPre_iff.1 hx).1.1
  have hm : maxLen ≤ 9223372036854775807 := by decide
  have h1 : okLen (List.length x.1) = true := okLen_iff.2 (Nat.le_trans hw hm)
  have h2 : inq (1048576 : Int) 0 1048576 = true := rfl
  simp only [h1, h2, Bool.and_self, cond_true]
  by_cases h : (1048576 : Int) < (List.length x.1 : Int)
  · simp only [if_pos h]; rfl
  · have h3 : decide (List.length x.1 ≤ 4294967296) = true := decide_eq_true (by have := Int.not_lt.1 h; omega)
    have h4 : decide ((1048576 : Int) - (List.length x.1 : Int) < 0) = false := decide_eq_false (by omega)
    simp only [if_neg h, h3, h4, same_self, beq_self_eq_true, cond_true, cond_false])⟩

end Go.Proofs.Ytkjimaolpijoiaa
