/- The contracts: small functions of the laws. -/
import Derived.Test.YtkjimaolpijoiaaFnSpcRaiseSn8
set_option linter.unusedVariables false
set_option linter.unusedSimpArgs false
namespace Go.Proofs.Ytkjimaolpijoiaa
open Go.Vm

theorem s_iDayLeap : C_iDayLeap (fun _ => true) (fun x => (decide (Int.tmod x.1 4 = 0) && (!decide (Int.tmod x.1 100 = 0) || decide (Int.tmod x.1 400 = 0)), ())) := S_iDayLeap fun x _ => ⟨0, (ev_iDayLeap 0 x.1).trans (by
  have key : ∀ y : Int, (bif (bif (decide ((4 : Int) = (0 : Int))) then false else true) then (bif (decide ((Int.tmod y (4 : Int)) = (0 : Int))) then (bif (bif (decide ((100 : Int) = (0 : Int))) then false else true) then (bif (bif (decide ((Int.tmod y (100 : Int)) = (0 : Int))) then false else true) then (some (true, ())) else (bif (bif (decide ((400 : Int) = (0 : Int))) then false else true) then (some ((decide ((Int.tmod y (400 : Int)) = (0 : Int))), ())) else none)) else none) else (some (false, ()))) else none) = some (decide (Int.tmod y 4 = 0) && (!decide (Int.tmod y 100 = 0) || decide (Int.tmod y 400 = 0)), ()) := fun y => by
    cases decide (Int.tmod y 4 = 0)
    · rfl
    · cases decide (Int.tmod y 100 = 0) <;> rfl
  exact key x.1)⟩
theorem s_iDayLast : C_iDayLast (fun x => decide (x.1 = 2000) && decide (x.2.1 = 2)) (fun _ => ((29 : Int), ())) := S_iDayLast s_iin s_iDayLeap fun x hx => by
  have hx : (decide (x.1 = 2000) && decide (x.2.1 = 2)) = true := hx
  simp only [Bool.and_eq_true, decide_eq_true_eq] at hx
  obtain ⟨a, b, u⟩ := x
  obtain ⟨h1, h2⟩ := hx
  have h1 : a = 2000 := h1
  have h2 : b = 2 := h2
  subst h1 h2
  exact ⟨0, ev_iDayLast 0 2000 2⟩
theorem s_iDayOk : C_iDayOk (fun x => decide (x.1.1 = 2000) && (decide (x.1.2.1 = 2) && decide (x.1.2.2 = 29))) (fun _ => (true, ())) := S_iDayOk s_iin s_iDayLast fun x hx => by
  have hx : (decide (x.1.1 = 2000) && (decide (x.1.2.1 = 2) && decide (x.1.2.2 = 29))) = true := hx
  simp only [Bool.and_eq_true, decide_eq_true_eq] at hx
  obtain ⟨⟨a, b, c⟩, u⟩ := x
  obtain ⟨h1, h2, h3⟩ := hx
  have h1 : a = 2000 := h1
  have h2 : b = 2 := h2
  have h3 : c = 29 := h3
  subst h1 h2 h3
  exact ⟨0, ev_iDayOk 0 (2000, 2, 29)⟩
theorem s_lcuOk : C_lcuOk (fun _ => true) (fun _ => (true, ())) := S_lcuOk s_iDayOk fun x _ => ⟨0, ev_lcuOk 0⟩

noncomputable def spcFind (l : List MAsk) (n : Int) : MAsk × Bool := bif decide (idxOf (fun t : MAsk => decide (t.1 = n)) l 0 < 0) then ((0, (0, 0), (0, 0), 0), false) else (rdL (e := S_SpcTest) l (idxOf (fun t : MAsk => decide (t.1 = n)) l 0), true)
theorem beq_ask (a b : MAsk) : Sh.beq S_SpcTest a b = same a b := by
  show (decide (a.1 = b.1) && ((decide (a.2.1.1 = b.2.1.1) && decide (a.2.1.2 = b.2.1.2)) && ((decide (a.2.2.1.1 = b.2.2.1.1) && decide (a.2.2.1.2 = b.2.2.1.2)) && decide (a.2.2.2 = b.2.2.2)))) = _
  simp only [same_int, same_pair]
theorem s_lcuTests : C_lcuTests (fun x => decide (List.length x.1 ≤ 4294967296)) (fun x => (same x.1 x.2.1, ())) := S_lcuTests fun x hx => ⟨List.length x.1 + 1, (ev_lcuTests _ x.1 x.2.1).trans (by
  have hx : List.length x.1 ≤ 4294967296 := of_decide_eq_true hx
  by_cases hl : List.length x.1 = List.length x.2.1
  · rw [hl, decide_eq_true rfl, ← hl]
    refine eq_loop (α := MAsk) x.1 x.2.1 hl (fun k i => r_lcuTests (x.1, x.2.1, ()) k [false, true, false, true, true] (h0_lcuTests x.1 x.2.1 (i : Int))) (fun k => ?_) (fun k i a b r r' hd hd' hi hi' => ?_)
    · rw [rd0_lcuTests, lt_false (Nat.le_refl _)]; rfl
    · rw [rd0_lcuTests, in_true hi, in_true hi', lt_true hi, w_succ (by omega), rdL_drop hd, rdL_drop hd', beq_ask]
      cases same a b <;> rfl
  · rw [decide_eq_false (by omega), same_false (fun e => hl (congrArg List.length e))]; rfl)⟩
end Go.Proofs.Ytkjimaolpijoiaa
