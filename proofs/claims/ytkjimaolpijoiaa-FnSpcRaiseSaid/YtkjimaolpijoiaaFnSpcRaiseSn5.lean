/- The contracts: tests. -/
import Derived.Test.YtkjimaolpijoiaaFnSpcRaiseSn4
set_option linter.unusedVariables false
set_option linter.unusedSimpArgs false
namespace Go.Proofs.Ytkjimaolpijoiaa
open Go.Vm

theorem beq_dec (a b : MDec) : Sh.beq S_DecDec a b = same a b := by
  show (decide (a.1 = b.1) && decide (a.2 = b.2)) = _
  rw [same_int, same_int, same_pair]

end Go.Proofs.Ytkjimaolpijoiaa
