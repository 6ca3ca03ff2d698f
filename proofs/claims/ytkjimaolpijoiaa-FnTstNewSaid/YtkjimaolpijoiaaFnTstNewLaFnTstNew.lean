/- A test begins without a result. -/
import Derived.Test.YtkjimaolpijoiaaFnTstNewSn9
set_option linter.unusedVariables false
set_option linter.unusedSimpArgs false
namespace Go.Proofs.Ytkjimaolpijoiaa
open Go.Vm
theorem s_lFnTstNew : C_lFnTstNew (lawPre _) (fun _ => (true, ())) := S_lFnTstNew s_sDrawTstNew s_iTstNew s_sDrawTstNeed s_sTstNew s_lcuTest s_iTstNeed s_sTstNeed s_iTstTell s_iTstOk s_iSpcTestsOk fun x hx => ⟨0, (ev_lFnTstNew 0 x.1 x.2.1).trans (by
  have hb : bytesB x.1 = true := bytes_of (lawPre_iff.1 hx).1.2
  have hb2 : bytesB x.2.1 = true := bytes_of (lawPre_iff.1 hx).2.1.2
  refine gets_true ?_
  refine gets_both (fun _ => gets_some rfl) fun _ => gets_both (fun _ => gets_some rfl) fun _ => ?_
  refine gets_cl hb ?_
  obtain ⟨a, u⟩ := d_sDrawTstNew (x.1, ())
  refine gets_cl hb2 ?_
  obtain ⟨c, u2⟩ := d_sDrawTstNeed (x.2.1, ())
  refine gets_cl rfl ?_
  show Gets (bif (bif same ((a, 0, (0, 0), 0, []) : MTst) (a, 0, (0, 0), 0, []) then false else true) then _ else _) _
  rw [same_self]
  show Gets (bif (bif decide (need c = need c) then false else true) then _ else _) _
  rw [decide_eq_true rfl]
  refine gets_cl rfl (gets_both (fun _ => ?_) fun h => by cases h)
  rw [beq_ask]
  show Gets (bif same a a then _ else _) _
  rw [same_self]
  have e : tstOk (a, 0, (0, 0), 0, []) = askOk a := tstOk_new a
  have e2 : (bif tstOk (a, 0, (0, 0), 0, []) && (decide ((0 : Int) = 3) || decide ((0 : Int) = 4)) then (((tell (a, 0, (0, 0), 0, [])), true, ()) : MDec × Bool × Unit) else ((0, 0), false, ())) = ((0, 0), false, ()) := by
    show (bif tstOk (a, 0, (0, 0), 0, []) && false then _ else _) = _
    rw [Bool.and_false]; rfl
  show Gets (bif (bif (bif tstOk (a, 0, (0, 0), 0, []) && (decide ((0 : Int) = 3) || decide ((0 : Int) = 4)) then (((tell (a, 0, (0, 0), 0, [])), true, ()) : MDec × Bool × Unit) else ((0, 0), false, ())).2.1 then false else true) then _ else _) _
  rw [e2]
  refine gets_cl rfl (gets_cl rfl ?_)
  show Gets (bif (tstOk (a, 0, (0, 0), 0, []) == testsOk [a]) then _ else _) _
  rw [testsOk_one, e, beq_self_eq_true]
  exact gets_some rfl)⟩

end Go.Proofs.Ytkjimaolpijoiaa
