/- What is looked at is what is told. -/
import Derived.Test.YtkjimaolpijoiaaFnSpcInSn9
set_option linter.unusedVariables false
set_option linter.unusedSimpArgs false
namespace Go.Proofs.Ytkjimaolpijoiaa
open Go.Vm
theorem s_lFnSpcIn : C_lFnSpcIn (lawPre _) (fun _ => (true, ())) := S_lFnSpcIn s_sDrawSpcIn s_iSpcIn s_sSpcIn s_sSpcTestsOk s_sDecOk s_lcuOk s_iDecAt s_iDecCmp fun x hx => ⟨0, (ev_lFnSpcIn 0 x.1).trans (by
  have hb : bytesB x.1 = true := bytes_of (lawPre_iff.1 hx).1.2
  refine (gets_true ?_)
  refine gets_both (fun _ => gets_some rfl) fun _ => ?_
  refine gets_cl hb ?_
  obtain ⟨t, v, u⟩ := d_sDrawSpcIn (x.1, ())
  show Gets (bif (bif (spcIn t v == spcIn t v) then false else true) then _ else _) _
  rw [beq_self_eq_true]
  show Gets (bif (bif testsOk [t] then false else true) then _ else _) _
  rw [testsOk_one]
  cases ht : askOk t
  · refine gets_both (fun _ => ?_) fun h => by cases h
    rw [spcIn_bad (.inl ht)]
    exact gets_some rfl
  · refine gets_both (fun h => by cases h) fun _ => ?_
    cases hv : decOk v
    · refine gets_both (fun _ => ?_) fun h => by cases h
      rw [spcIn_bad (.inr hv)]
      exact gets_some rfl
    · refine gets_both (fun h => by cases h) fun _ => ?_
      show Gets (bif decide (t.2.2.2 < t.2.1.2) then _ else _) _
      have e1 := spcIn_at ht hv
      have e2 := spcIn_ok ht hv
      have e3 : decide (t.2.2.2 < t.2.1.2) = false → spcIn t t.2.1 = true := fun h => spcIn_low ht (Int.not_lt.1 (of_decide_eq_false h))
      have key : ∀ A B C1 C2 L D : Bool, A = B → A = (C1 && C2) → (D = false → L = true) → (bif D then (bif (A == B) then (bif C1 then (bif (A == C2) then some (true, ()) else some (false, ())) else (bif (A == false) then some (true, ()) else some (false, ()))) else some (false, ())) else (bif (A == B) then (bif C1 then (bif (A == C2) then (bif L then some (true, ()) else some (false, ())) else some (false, ())) else (bif (A == false) then (bif L then some (true, ()) else some (false, ())) else some (false, ()))) else some (false, ()))) = some (true, ()) := by
        intro A B C1 C2 L D h1 h2 h3
        subst h1 h2
        cases C1 <;> cases C2 <;> cases D <;> first | rfl | (rw [h3 rfl]; rfl)
      exact ⟨_, key _ _ _ _ _ _ e1.symm e2 e3, rfl⟩)⟩

end Go.Proofs.Ytkjimaolpijoiaa
