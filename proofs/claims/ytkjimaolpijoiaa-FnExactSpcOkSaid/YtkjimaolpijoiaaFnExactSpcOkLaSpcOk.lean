/- SpcOk of the program returns what the reference's returns. -/
import Derived.Test.YtkjimaolpijoiaaFnExactSpcOkSn4
set_option linter.unusedVariables false
set_option linter.unusedSimpArgs false
namespace Go.Proofs.Ytkjimaolpijoiaa
open Go.Vm
theorem s_lFnExactSpcOk : C_lFnExactSpcOk (lawPre _) (fun _ => (true, ())) := S_lFnExactSpcOk s_lszSpcSpecS s_ltoSpcSpecS s_sSpcOk s_iSpcOk s_leqSpcSpecS fun x hx => ⟨0, (ev_lFnExactSpcOk 0 x.1).trans (by
  have hw := (lawPre_iff.1 hx).1
  have h1 : wfSpcs x.1 = true := Bool.and_eq_true_iff.2 ⟨okLen_iff.2 hw.1, List.all_eq_true.2 fun s hs => okLen_iff.2 (hw.2 s hs).1.1⟩
  have h2 : inq (1048576 : Int) 0 1048576 = true := rfl
  simp only [h1, h2, Bool.and_self, cond_true]
  by_cases h : szList szSpc x.1 1048576 < 0
  · simp only [decide_eq_true h, cond_true]
  · have hs := szList_all (f := szSpc) (xs := x.1) (fun s l h => szAsk_le _ _ h) (P := fun s => s.1.length ≤ 1048576) (fun s l h1 h2 => szAsk_small h1 h2) (Int.le_refl _) (Int.not_lt.1 h)
    have h3 : smS x.1 = true := smS_iff.2 ⟨Nat.le_trans hs.1 (by decide), fun s hm => Nat.le_trans (hs.2 s hm) (by decide)⟩
    simp only [decide_eq_false h, h3, same_self, beq_self_eq_true, cond_true, cond_false])⟩

end Go.Proofs.Ytkjimaolpijoiaa
