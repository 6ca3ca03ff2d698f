/- The contracts: asks in lists; what compares, what copies. -/
import Derived.Test.YtkjimaolpijoiaaFnExactTstTellSn2
set_option linter.unusedVariables false
set_option linter.unusedSimpArgs false
namespace Go.Proofs.Ytkjimaolpijoiaa
open Go.Vm

theorem s_ltoDecDec : C_ltoDecDec (fun _ => true) (fun x => (x.1, ())) := S_ltoDecDec fun x _ => ⟨0, ev_ltoDecDec 0 x.1⟩
theorem s_ltoSpcTest : C_ltoSpcTest (fun _ => true) (fun x => (x.1, ())) := S_ltoSpcTest s_ltoDecDec fun x _ => ⟨0, ev_ltoSpcTest 0 x.1⟩

theorem p_make {n : Nat} {α : Type} {X : Option α} (h : n ≤ 4294967296) : (bif (bif (bif (decide ((0 : Int) ≤ (n : Int))) then (decide ((n : Int) ≤ (BIG : Int))) else false) then (decide ((n : Int) = (n : Int))) else false) then X else none) = X := by
  rw [decide_eq_true (show (0 : Int) ≤ (n : Int) by omega), decide_eq_true (show (n : Int) ≤ (BIG : Int) by show (n : Int) ≤ ((4294967296 : Nat) : Int); omega), decide_eq_true rfl]; rfl

theorem s_leqDecDec : C_leqDecDec (fun _ => true) (fun x => (same x.1 x.2.1, ())) := S_leqDecDec fun x _ => ⟨0, (ev_leqDecDec 0 x.1 x.2.1).trans (by
  simp only [bif_not, bif_neg, bif_some, bif_pair, bif_and, same_int, Bool.and_true]
  exact congrArg (fun b => some (b, ())) (same_pair _ _ _ _))⟩
theorem s_leqSpcTest : C_leqSpcTest (fun _ => true) (fun x => (same x.1 x.2.1, ())) := S_leqSpcTest s_leqDecDec fun x _ => ⟨0, (ev_leqSpcTest 0 x.1 x.2.1).trans (by
  simp only [bif_not, bif_neg, bif_some, bif_pair, bif_and, same_int, Bool.and_true]
  refine congrArg (fun b => some (b, ())) ?_
  rw [same_pair, same_pair, same_pair])⟩

/-- Two rows of one length, and the loop over them. -/
theorem p_eqS {α : Type} {xs ys : List α} {X : Option (Bool × Unit)} (h : xs.length = ys.length → X = some (same xs ys, ())) : (bif (bif (decide ((xs.length : Int) = (ys.length : Int))) then false else true) then (some (false, ())) else X) = some (same xs ys, ()) := by
  by_cases hl : xs.length = ys.length
  · rw [decide_eq_true (by omega)]; exact h hl
  · rw [decide_eq_false (by omega), same_false fun e => hl (by rw [e])]; rfl

end Go.Proofs.Ytkjimaolpijoiaa
