/- The contracts: sizes, copies, comparings of tests. -/
import Derived.Test.YtkjimaolpijoiaaFnSpcRaiseSn6
set_option linter.unusedVariables false
set_option linter.unusedSimpArgs false
namespace Go.Proofs.Ytkjimaolpijoiaa
open Go.Vm

theorem p_szLen (n : Nat) (l : Int) (h1 : n ≤ 9223372036854775807) (h2 : 0 ≤ l) (h3 : l ≤ 1048576) : (bif (decide ((w64 (l - (n : Int))) < (0 : Int))) then (some ((-1 : Int), ())) else (some ((w64 (l - (n : Int))), ()))) = some (if l < (n : Int) then -1 else l - (n : Int), ()) := by
  rw [w64_eq (by omega) (by omega)]
  by_cases h : l < n
  · rw [if_pos h, decide_eq_true (by omega)]; rfl
  · rw [if_neg h, decide_eq_false (by omega)]; rfl
theorem p_szPass (n : Nat) (l : Int) (h : 0 ≤ l) : (bif decide ((if l < (n : Int) then -1 else l - (n : Int)) < (0 : Int)) then (some ((-1 : Int), ())) else (some ((if l < (n : Int) then -1 else l - (n : Int)), ()))) = some ((if l < (n : Int) then -1 else l - (n : Int)), ()) := by
  by_cases h1 : l < (n : Int)
  · rw [if_pos h1]; rfl
  · rw [if_neg h1, decide_eq_false (by omega)]; rfl
/-- What is left behind so many. -/
def szN (n : Nat) (l : Int) : Int := if l < (n : Int) then -1 else l - (n : Int)
theorem szN_small {n : Nat} {l : Int} (h : l ≤ 1048576) (h2 : ¬ szN n l < 0) : n ≤ 1048576 := by
  unfold szN at h2; split at h2 <;> omega

end Go.Proofs.Ytkjimaolpijoiaa
