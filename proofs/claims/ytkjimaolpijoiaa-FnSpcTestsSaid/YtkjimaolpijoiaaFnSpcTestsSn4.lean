/- The contracts: specifications. -/
import Derived.Test.YtkjimaolpijoiaaFnSpcTestsSn3
set_option linter.unusedVariables false
set_option linter.unusedSimpArgs false
namespace Go.Proofs.Ytkjimaolpijoiaa
open Go.Vm

/-- Lists that came in. -/
def wfSpcs (l : List MSpc) : Bool := okLen l.length && l.all (fun s => okLen s.1.length)
end Go.Proofs.Ytkjimaolpijoiaa
