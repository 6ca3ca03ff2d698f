/- The contracts: small functions of the laws. -/
import Derived.Test.YtkjimaolpijoiaaFnSpcTestsSn8
set_option linter.unusedVariables false
set_option linter.unusedSimpArgs false
namespace Go.Proofs.Ytkjimaolpijoiaa
open Go.Vm

theorem s_iSpcFind_c1 : C_iSpcFind_c1 (fun _ => true) (fun x => (decide (x.1.1 = x.2.1), ())) := S_iSpcFind_c1 fun x _ => ⟨0, ev_iSpcFind_c1 0 x.1 x.2.1⟩
theorem s_gIndexFunc_SpcTest__iSpcFind_c1 : C_gIndexFunc_SpcTest__iSpcFind_c1 (fun x => decide (List.length x.1 ≤ 4294967296)) (fun x => (idxOf (fun t : MAsk => decide (t.1 = x.2.1.1)) x.1 0, ())) := S_gIndexFunc_SpcTest__iSpcFind_c1 s_iSpcFind_c1 fun x hx => ⟨List.length x.1 + 1, (ev_gIndexFunc_SpcTest__iSpcFind_c1 _ x.1 x.2.1).trans (by
  have hx : List.length x.1 ≤ 4294967296 := of_decide_eq_true hx
  refine idx_loop (α := MAsk) x.1 (fun t => decide (t.1 = x.2.1.1)) (fun k i => r_gIndexFunc_SpcTest__iSpcFind_c1 (fun x => (decide (x.1.1 = x.2.1), ())) (x.1, x.2.1, ()) k [false, true, false, true] (h0_gIndexFunc_SpcTest__iSpcFind_c1 x.1 x.2.1 (List.length x.1 : Int) (i : Int))) (fun k => ?_) (fun k i y r hd hi => ?_)
  · rw [rd0_gIndexFunc_SpcTest__iSpcFind_c1, lt_false (Nat.le_refl _)]; rfl
  · rw [rd0_gIndexFunc_SpcTest__iSpcFind_c1, in_true hi, lt_true hi, w_succ (by omega), rdL_drop hd]; rfl)⟩
noncomputable def spcFind (l : List MAsk) (n : Int) : MAsk × Bool := bif decide (idxOf (fun t : MAsk => decide (t.1 = n)) l 0 < 0) then ((0, (0, 0), (0, 0), 0), false) else (rdL (e := S_SpcTest) l (idxOf (fun t : MAsk => decide (t.1 = n)) l 0), true)
theorem s_iSpcFind : C_iSpcFind (fun x => decide (List.length x.1 ≤ 4294967296)) (fun x => ((spcFind x.1 x.2.1).1, (spcFind x.1 x.2.1).2, ())) := S_iSpcFind s_gIndexFunc_SpcTest__iSpcFind_c1 fun x hx => ⟨0, (ev_iSpcFind 0 x.1 x.2.1).trans (by
  have hx : decide (List.length x.1 ≤ 4294967296) = true := hx
  have key : ∀ (l : List MAsk) (i : Int), i = -1 ∨ (0 ≤ i ∧ i < l.length) → (bif (decide (i < (0 : Int))) then (some (((0 : Int), (((0 : Int), (0 : Int)), (((0 : Int), (0 : Int)), (0 : Int)))), (false, ()))) else (bif (bif (decide ((0 : Int) ≤ i)) then (decide (i < (List.length l : Int))) else false) then (some ((rdL (e := S_SpcTest) l i), (true, ()))) else none)) = some ((bif decide (i < 0) then (((0, (0, 0), (0, 0), 0), false) : MAsk × Bool) else (rdL (e := S_SpcTest) l i, true)).1, (bif decide (i < 0) then (((0, (0, 0), (0, 0), 0), false) : MAsk × Bool) else (rdL (e := S_SpcTest) l i, true)).2, ()) := by
    intro l i hi
    rcases hi with rfl | ⟨h1, h2⟩
    · rfl
    · rw [decide_eq_false (show ¬ i < 0 by omega), decide_eq_true h1, decide_eq_true h2]; rfl
  simp only [hx, cond_true]
  exact key x.1 _ (idxOf_range _ _))⟩

theorem beq_ask (a b : MAsk) : Sh.beq S_SpcTest a b = same a b := by
  show (decide (a.1 = b.1) && ((decide (a.2.1.1 = b.2.1.1) && decide (a.2.1.2 = b.2.1.2)) && ((decide (a.2.2.1.1 = b.2.2.1.1) && decide (a.2.2.1.2 = b.2.2.1.2)) && decide (a.2.2.2 = b.2.2.2)))) = _
  simp only [same_int, same_pair]
end Go.Proofs.Ytkjimaolpijoiaa
