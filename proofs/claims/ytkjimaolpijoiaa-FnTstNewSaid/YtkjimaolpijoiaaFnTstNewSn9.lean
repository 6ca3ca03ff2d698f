/- The contracts: small functions of the laws. -/
import Derived.Test.YtkjimaolpijoiaaFnTstNewSn8
set_option linter.unusedVariables false
set_option linter.unusedSimpArgs false
namespace Go.Proofs.Ytkjimaolpijoiaa
open Go.Vm

noncomputable def spcFind (l : List MAsk) (n : Int) : MAsk × Bool := bif decide (idxOf (fun t : MAsk => decide (t.1 = n)) l 0 < 0) then ((0, (0, 0), (0, 0), 0), false) else (rdL (e := S_SpcTest) l (idxOf (fun t : MAsk => decide (t.1 = n)) l 0), true)
theorem s_iTstNew : C_iTstNew (fun _ => true) (fun x => ((x.1, 0, (0, 0), 0, []), ())) := S_iTstNew fun x _ => ⟨0, ev_iTstNew 0 x.1⟩
theorem s_sTstNew : C_sTstNew (fun _ => true) (fun x => ((x.1, 0, (0, 0), 0, []), ())) := S_sTstNew fun x _ => ⟨0, ev_sTstNew 0 x.1⟩

theorem beq_ask (a b : MAsk) : Sh.beq S_SpcTest a b = same a b := by
  show (decide (a.1 = b.1) && ((decide (a.2.1.1 = b.2.1.1) && decide (a.2.1.2 = b.2.1.2)) && ((decide (a.2.2.1.1 = b.2.2.1.1) && decide (a.2.2.1.2 = b.2.2.1.2)) && decide (a.2.2.2 = b.2.2.2)))) = _
  simp only [same_int, same_pair]
theorem s_lcuDecs : C_lcuDecs (fun x => decide (List.length x.1 ≤ 4294967296)) (fun x => (same x.1 x.2.1, ())) := S_lcuDecs fun x hx => ⟨List.length x.1 + 1, (ev_lcuDecs _ x.1 x.2.1).trans (by
  have hx : List.length x.1 ≤ 4294967296 := of_decide_eq_true hx
  by_cases hl : List.length x.1 = List.length x.2.1
  · rw [hl, decide_eq_true rfl, ← hl]
    refine eq_loop (α := MDec) x.1 x.2.1 hl (fun k i => r_lcuDecs (x.1, x.2.1, ()) k [false, true, false, true, true] (h0_lcuDecs x.1 x.2.1 (i : Int))) (fun k => ?_) (fun k i a b r r' hd hd' hi hi' => ?_)
    · rw [rd0_lcuDecs, lt_false (Nat.le_refl _)]; rfl
    · rw [rd0_lcuDecs, in_true hi, in_true hi', lt_true hi, w_succ (by omega), rdL_drop hd, rdL_drop hd', beq_dec]
      cases same a b <;> rfl
  · rw [decide_eq_false (by omega), same_false (fun e => hl (congrArg List.length e))]; rfl)⟩
theorem s_lcuTest : C_lcuTest (fun x => decide (List.length x.1.2.2.2.2 ≤ 4294967296)) (fun x => (same x.1 x.2.1, ())) := S_lcuTest s_lcuDecs fun x hx => ⟨0, (ev_lcuTest 0 x.1 x.2.1).trans (by
  have hx : decide (List.length x.1.2.2.2.2 ≤ 4294967296) = true := hx
  have key : ∀ a b : MTst, (bif same a.1 b.1 then (bif decide (a.2.1 = b.2.1) then (bif same a.2.2.1 b.2.2.1 then (bif decide (a.2.2.2.1 = b.2.2.2.1) then some (same a.2.2.2.2 b.2.2.2.2, ()) else some (false, ())) else some (false, ())) else some (false, ())) else some (false, ())) = some (same a b, ()) := by
    intro a b
    rw [← same_pair a.1 b.1, ← same_pair a.2.1 b.2.1, ← same_pair a.2.2.1 b.2.2.1, ← same_pair a.2.2.2.1 b.2.2.2.1, same_int, same_int]
    cases same a.1 b.1 <;> cases same a.2.1 b.2.1 <;> cases same a.2.2.1 b.2.2.1 <;> cases same a.2.2.2.1 b.2.2.2.1 <;> rfl
  simp only [hx, cond_true]
  exact (by rw [beq_ask, beq_dec]; exact key x.1 x.2.1))⟩

end Go.Proofs.Ytkjimaolpijoiaa
