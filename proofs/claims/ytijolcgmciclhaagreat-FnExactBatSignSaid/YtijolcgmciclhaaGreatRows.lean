/-
  No cell of these rows narrows 'for every input' (looked for: loops, veiled, ifaces, maps, wideKeys, modest, calm, conditions, laid).
  DERIVED. THE GIVEN ROWS OF THIS SEAT. 2 by the template 'for every input the law returns true; each argument reads behind the call as it read before'; 0 by the template 'total and deterministic' (their statements: YtijolcgmciclhaaGreatTotals.lean).
  GIVEN WITH THE SEED: the statements are not yours to turn. If you find one false, say at which input.
  Laid BY PROGRAM, IN A SANDBOX (cutbox-rows.mjs): the forced cells as the released guide's own fill.sh prints them over the translation 0851043d9f554094… (all of the seat's roots in one cut). By AI agents, Wed Nov 11 2026. No macro, syntax, notation, axiom, sorry.
-/
import Derived.Test.YtijolcgmciclhaaGreatChecked
import GoSem.Claim
import GoSem.ClaimJoined
import GoSem.ClaimMapViews
import Derived.JoinedTies
import Derived.KernelRfl
namespace Go.Proofs.YtijolcgmciclhaaGreat
/- THE CELL 'sum', in the pinned program and in every row, IS THE sha256 OF THE DUMP (.gsa) THAT YtijolcgmciclhaaGreatProg.lean LOADS. Nothing in Lean hashes anything: it is a label: what it is worth is what the hold of that sum in a sandbox is worth. -/
noncomputable def Tryz.pinned : Pinned := { name := "ytijolcgmciclhaagreat", sum := "0851043d9f5540941ba4ef0dbdc24abfc1f4f346ff209a63be80ee77b5471eb4", checked := Tryz.checked }
namespace Rows
def none {H : Type} : Left H := { results := [], args := [] }

/-- 'laws.FnExactBatMove': WHATEVER THE INPUT: true; the input reads as it did. -/
def fnExactBatMoveSpec : ChangeSpec := { name := "fnExactBatMove", fn := fun _ => fun
  | [d1, d2] => { results := [.lit (.bool true)], args := [d1, d2] }
  | _ => none }
def fnExactBatMoveRow : OpenClaim := { program := "ytijolcgmciclhaagreat", sum := "0851043d9f5540941ba4ef0dbdc24abfc1f4f346ff209a63be80ee77b5471eb4", func := "loop.example/cupel/laws.FnExactBatMove", spec := "fnExactBatMove", unfollowed := true, recurses := true, apart := false }
def FnExactBatMoveSaid : Prop := fnExactBatMoveRow.holds Tryz.pinned (OpenSpec.ofChange fnExactBatMoveSpec)

/-- ITS FALSE NEIGHBOUR: 'it returns false'. Refute it at one input. -/
def fnExactBatMoveWrong : ChangeSpec := { name := "fnExactBatMove", fn := fun _ => fun
  | [d1, d2] => { results := [.lit (.bool false)], args := [d1, d2] }
  | _ => none }
def FnExactBatMoveWrongFalsely : Prop := fnExactBatMoveRow.holds Tryz.pinned (OpenSpec.ofChange fnExactBatMoveWrong)

/-- 'laws.FnExactBatSign': WHATEVER THE INPUT: true; the input reads as it did. -/
def fnExactBatSignSpec : ChangeSpec := { name := "fnExactBatSign", fn := fun _ => fun
  | [d1, d2, d3] => { results := [.lit (.bool true)], args := [d1, d2, d3] }
  | _ => none }
def fnExactBatSignRow : OpenClaim := { program := "ytijolcgmciclhaagreat", sum := "0851043d9f5540941ba4ef0dbdc24abfc1f4f346ff209a63be80ee77b5471eb4", func := "loop.example/cupel/laws.FnExactBatSign", spec := "fnExactBatSign", unfollowed := true, recurses := true, apart := false }
def FnExactBatSignSaid : Prop := fnExactBatSignRow.holds Tryz.pinned (OpenSpec.ofChange fnExactBatSignSpec)

/-- ITS FALSE NEIGHBOUR: 'it returns false'. Refute it at one input. -/
def fnExactBatSignWrong : ChangeSpec := { name := "fnExactBatSign", fn := fun _ => fun
  | [d1, d2, d3] => { results := [.lit (.bool false)], args := [d1, d2, d3] }
  | _ => none }
def FnExactBatSignWrongFalsely : Prop := fnExactBatSignRow.holds Tryz.pinned (OpenSpec.ofChange fnExactBatSignWrong)

/- THE SECOND FORM. 'bulk': how many values and letters a reading holds, each counted each time it is reached (what is shared counts as often as it is met; a slice's spare places count too). A statement '..UptoSaid' is the law's where the arguments, and the package variables that the reading takes, are together of bulk at most 1048576: NARROWER than '..Said'. Prove '..Said' where nothing that the law and all that it calls make is longer than what came in: it says more and counts as full. Else prove '..UptoSaid'. A law counts once. -/
mutual
def uptoBulk {H : Type} : DataW H → Nat
  | .lit (.string bytes) => bytes.length + 1
  | .lit _ => 1
  | .nil => 1
  | .ptr d => uptoBulk d + 1
  | .slice elems spare => uptoBulkAll elems + uptoBulkAll spare + 1
  | .agg parts => uptoBulkAll parts + 1
  | .iface _ d => uptoBulk d + 1
  | .map entries => uptoBulkEntries entries + 1
  | .held _ => 1
def uptoBulkAll {H : Type} : List (DataW H) → Nat
  | [] => 0
  | d :: r => uptoBulk d + uptoBulkAll r
def uptoBulkEntries {H : Type} : List (Lit × DataW H) → Nat
  | [] => 0
  | x :: r => uptoBulkEntry x + uptoBulkEntries r
def uptoBulkEntry {H : Type} : Lit × DataW H → Nat
  | (.string bytes, d) => bytes.length + uptoBulk d + 1
  | (_, d) => uptoBulk d + 1
 end
def uptoSmall : (H : Type) → List (DataW H) → Bool := fun _ ds => decide (uptoBulkAll ds ≤ 1048576)
def OpenSpec.upto (s : _root_.Go.ChangeSpec) : _root_.Go.OpenSpec := { _root_.Go.OpenSpec.ofChange s with cond := some uptoSmall }

/-- 'laws.FnExactBatMove', WHERE WHAT IT READS IS OF BULK AT MOST 1048576: true; the input reads as it did. -/
def fnExactBatMoveUptoRow : OpenClaim := { program := "ytijolcgmciclhaagreat", sum := "0851043d9f5540941ba4ef0dbdc24abfc1f4f346ff209a63be80ee77b5471eb4", func := "loop.example/cupel/laws.FnExactBatMove", spec := "fnExactBatMove", unfollowed := true, recurses := true, apart := false, narrowed := true }
def FnExactBatMoveUptoSaid : Prop := fnExactBatMoveUptoRow.holds Tryz.pinned (OpenSpec.upto fnExactBatMoveSpec)

/-- 'laws.FnExactBatSign', WHERE WHAT IT READS IS OF BULK AT MOST 1048576: true; the input reads as it did. -/
def fnExactBatSignUptoRow : OpenClaim := { program := "ytijolcgmciclhaagreat", sum := "0851043d9f5540941ba4ef0dbdc24abfc1f4f346ff209a63be80ee77b5471eb4", func := "loop.example/cupel/laws.FnExactBatSign", spec := "fnExactBatSign", unfollowed := true, recurses := true, apart := false, narrowed := true }
def FnExactBatSignUptoSaid : Prop := fnExactBatSignUptoRow.holds Tryz.pinned (OpenSpec.upto fnExactBatSignSpec)

end Rows
end Go.Proofs.YtijolcgmciclhaaGreat
