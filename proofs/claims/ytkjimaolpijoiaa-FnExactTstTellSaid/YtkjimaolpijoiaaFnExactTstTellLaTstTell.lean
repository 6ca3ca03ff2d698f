/- TstTell of the program returns what the reference's returns. -/
import Derived.Test.YtkjimaolpijoiaaFnExactTstTellSn7
set_option linter.unusedVariables false
set_option linter.unusedSimpArgs false
namespace Go.Proofs.Ytkjimaolpijoiaa
open Go.Vm
theorem s_lFnExactTstTell : C_lFnExactTstTell (lawPre _) (fun _ => (true, ())) := S_lFnExactTstTell s_lszTstTest s_ltoTstTest s_sTstTell s_iTstTell s_leqDecDec s_leqTstTest fun x hx => ⟨0, (ev_lFnExactTstTell 0 x.1).trans (by
  have hw := (lawPre_iff.1 hx).1
  have h1 : okLen (List.length x.1.2.2.2.2) = true := okLen_iff.2 hw.2.2.2.2.1
  have h2 : inq (1048576 : Int) 0 1048576 = true := rfl
  simp only [h1, h2, Bool.and_self, cond_true]
  by_cases h : szN (List.length x.1.2.2.2.2) 1048576 < 0
  · simp only [decide_eq_true h, cond_true]
  · have h3 : decide (List.length x.1.2.2.2.2 ≤ 4294967296) = true := decide_eq_true (Nat.le_trans (szN_small (Int.le_refl _) h) (by decide))
    simp only [decide_eq_false h, h3, same_self, beq_self_eq_true, cond_true, cond_false])⟩

end Go.Proofs.Ytkjimaolpijoiaa
