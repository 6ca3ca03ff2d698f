/-
  No cell of these rows narrows 'for every input' (looked for: loops, veiled, ifaces, maps, wideKeys, modest, calm, conditions, laid).
  DERIVED. THE GIVEN ROWS OF THIS SEAT. 10 by the template 'for every input the law returns true; each argument reads behind the call as it read before'; 0 by the template 'total and deterministic' (their statements: YtijolcgmciclhaaTotals.lean).
  GIVEN WITH THE SEED: the statements are not yours to turn. If you find one false, say at which input.
  Laid BY PROGRAM, IN A SANDBOX (cutbox-rows.mjs): the forced cells as the released guide's own fill.sh prints them over the translation 1e2bdaae11593f03… (all of the seat's roots in one cut). By AI agents, Wed Nov 11 2026. No macro, syntax, notation, axiom, sorry.
-/
import Derived.Test.YtijolcgmciclhaaChecked
import GoSem.Claim
import GoSem.ClaimJoined
import GoSem.ClaimMapViews
import Derived.JoinedTies
import Derived.KernelRfl
namespace Go.Proofs.Ytijolcgmciclhaa
/- THE CELL 'sum', in the pinned program and in every row, IS THE sha256 OF THE DUMP (.gsa) THAT YtijolcgmciclhaaProg.lean LOADS. Nothing in Lean hashes anything: it is a label: what it is worth is what the hold of that sum in a sandbox is worth. -/
noncomputable def Try.pinned : Pinned := { name := "ytijolcgmciclhaa", sum := "1e2bdaae11593f03453393ef95ad820b598292798fffd35cb8753055248225b3", checked := Try.checked }
namespace Rows
def none {H : Type} : Left H := { results := [], args := [] }

/-- 'laws.FnTstPut': WHATEVER THE INPUT: true; the input reads as it did. -/
def fnTstPutSpec : ChangeSpec := { name := "fnTstPut", fn := fun _ => fun
  | [d] => { results := [.lit (.bool true)], args := [d] }
  | _ => none }
def fnTstPutRow : OpenClaim := { program := "ytijolcgmciclhaa", sum := "1e2bdaae11593f03453393ef95ad820b598292798fffd35cb8753055248225b3", func := "loop.example/cupel/laws.FnTstPut", spec := "fnTstPut", unfollowed := true, recurses := true, apart := false }
def FnTstPutSaid : Prop := fnTstPutRow.holds Try.pinned (OpenSpec.ofChange fnTstPutSpec)

/-- ITS FALSE NEIGHBOUR: 'it returns false'. Refute it at one input. -/
def fnTstPutWrong : ChangeSpec := { name := "fnTstPut", fn := fun _ => fun
  | [d] => { results := [.lit (.bool false)], args := [d] }
  | _ => none }
def FnTstPutWrongFalsely : Prop := fnTstPutRow.holds Try.pinned (OpenSpec.ofChange fnTstPutWrong)

/-- 'laws.FnTstCause': WHATEVER THE INPUT: true; the input reads as it did. -/
def fnTstCauseSpec : ChangeSpec := { name := "fnTstCause", fn := fun _ => fun
  | [d] => { results := [.lit (.bool true)], args := [d] }
  | _ => none }
def fnTstCauseRow : OpenClaim := { program := "ytijolcgmciclhaa", sum := "1e2bdaae11593f03453393ef95ad820b598292798fffd35cb8753055248225b3", func := "loop.example/cupel/laws.FnTstCause", spec := "fnTstCause", unfollowed := true, recurses := true, apart := false }
def FnTstCauseSaid : Prop := fnTstCauseRow.holds Try.pinned (OpenSpec.ofChange fnTstCauseSpec)

/-- ITS FALSE NEIGHBOUR: 'it returns false'. Refute it at one input. -/
def fnTstCauseWrong : ChangeSpec := { name := "fnTstCause", fn := fun _ => fun
  | [d] => { results := [.lit (.bool false)], args := [d] }
  | _ => none }
def FnTstCauseWrongFalsely : Prop := fnTstCauseRow.holds Try.pinned (OpenSpec.ofChange fnTstCauseWrong)

/-- 'laws.FnTstEnds': WHATEVER THE INPUT: true; the input reads as it did. -/
def fnTstEndsSpec : ChangeSpec := { name := "fnTstEnds", fn := fun _ => fun
  | [d] => { results := [.lit (.bool true)], args := [d] }
  | _ => none }
def fnTstEndsRow : OpenClaim := { program := "ytijolcgmciclhaa", sum := "1e2bdaae11593f03453393ef95ad820b598292798fffd35cb8753055248225b3", func := "loop.example/cupel/laws.FnTstEnds", spec := "fnTstEnds", unfollowed := true, recurses := true, apart := false }
def FnTstEndsSaid : Prop := fnTstEndsRow.holds Try.pinned (OpenSpec.ofChange fnTstEndsSpec)

/-- ITS FALSE NEIGHBOUR: 'it returns false'. Refute it at one input. -/
def fnTstEndsWrong : ChangeSpec := { name := "fnTstEnds", fn := fun _ => fun
  | [d] => { results := [.lit (.bool false)], args := [d] }
  | _ => none }
def FnTstEndsWrongFalsely : Prop := fnTstEndsRow.holds Try.pinned (OpenSpec.ofChange fnTstEndsWrong)

/-- 'laws.FnTstMore': WHATEVER THE INPUT: true; the input reads as it did. -/
def fnTstMoreSpec : ChangeSpec := { name := "fnTstMore", fn := fun _ => fun
  | [d] => { results := [.lit (.bool true)], args := [d] }
  | _ => none }
def fnTstMoreRow : OpenClaim := { program := "ytijolcgmciclhaa", sum := "1e2bdaae11593f03453393ef95ad820b598292798fffd35cb8753055248225b3", func := "loop.example/cupel/laws.FnTstMore", spec := "fnTstMore", unfollowed := true, recurses := true, apart := false }
def FnTstMoreSaid : Prop := fnTstMoreRow.holds Try.pinned (OpenSpec.ofChange fnTstMoreSpec)

/-- ITS FALSE NEIGHBOUR: 'it returns false'. Refute it at one input. -/
def fnTstMoreWrong : ChangeSpec := { name := "fnTstMore", fn := fun _ => fun
  | [d] => { results := [.lit (.bool false)], args := [d] }
  | _ => none }
def FnTstMoreWrongFalsely : Prop := fnTstMoreRow.holds Try.pinned (OpenSpec.ofChange fnTstMoreWrong)

/-- 'laws.FnExactBatNew': WHATEVER THE INPUT: true; the input reads as it did. -/
def fnExactBatNewSpec : ChangeSpec := { name := "fnExactBatNew", fn := fun _ => fun
  | [d1, d2, d3] => { results := [.lit (.bool true)], args := [d1, d2, d3] }
  | _ => none }
def fnExactBatNewRow : OpenClaim := { program := "ytijolcgmciclhaa", sum := "1e2bdaae11593f03453393ef95ad820b598292798fffd35cb8753055248225b3", func := "loop.example/cupel/laws.FnExactBatNew", spec := "fnExactBatNew", recurses := true, apart := false }
def FnExactBatNewSaid : Prop := fnExactBatNewRow.holds Try.pinned (OpenSpec.ofChange fnExactBatNewSpec)

/-- ITS FALSE NEIGHBOUR: 'it returns false'. Refute it at one input. -/
def fnExactBatNewWrong : ChangeSpec := { name := "fnExactBatNew", fn := fun _ => fun
  | [d1, d2, d3] => { results := [.lit (.bool false)], args := [d1, d2, d3] }
  | _ => none }
def FnExactBatNewWrongFalsely : Prop := fnExactBatNewRow.holds Try.pinned (OpenSpec.ofChange fnExactBatNewWrong)

/-- 'laws.FnExactBatOk': WHATEVER THE INPUT: true; the input reads as it did. -/
def fnExactBatOkSpec : ChangeSpec := { name := "fnExactBatOk", fn := fun _ => fun
  | [d] => { results := [.lit (.bool true)], args := [d] }
  | _ => none }
def fnExactBatOkRow : OpenClaim := { program := "ytijolcgmciclhaa", sum := "1e2bdaae11593f03453393ef95ad820b598292798fffd35cb8753055248225b3", func := "loop.example/cupel/laws.FnExactBatOk", spec := "fnExactBatOk", unfollowed := true, recurses := true, apart := false }
def FnExactBatOkSaid : Prop := fnExactBatOkRow.holds Try.pinned (OpenSpec.ofChange fnExactBatOkSpec)

/-- ITS FALSE NEIGHBOUR: 'it returns false'. Refute it at one input. -/
def fnExactBatOkWrong : ChangeSpec := { name := "fnExactBatOk", fn := fun _ => fun
  | [d] => { results := [.lit (.bool false)], args := [d] }
  | _ => none }
def FnExactBatOkWrongFalsely : Prop := fnExactBatOkRow.holds Try.pinned (OpenSpec.ofChange fnExactBatOkWrong)

/-- 'laws.FnExactBatGate': WHATEVER THE INPUT: true; the input reads as it did. -/
def fnExactBatGateSpec : ChangeSpec := { name := "fnExactBatGate", fn := fun _ => fun
  | [d] => { results := [.lit (.bool true)], args := [d] }
  | _ => none }
def fnExactBatGateRow : OpenClaim := { program := "ytijolcgmciclhaa", sum := "1e2bdaae11593f03453393ef95ad820b598292798fffd35cb8753055248225b3", func := "loop.example/cupel/laws.FnExactBatGate", spec := "fnExactBatGate", unfollowed := true, recurses := true, apart := false }
def FnExactBatGateSaid : Prop := fnExactBatGateRow.holds Try.pinned (OpenSpec.ofChange fnExactBatGateSpec)

/-- ITS FALSE NEIGHBOUR: 'it returns false'. Refute it at one input. -/
def fnExactBatGateWrong : ChangeSpec := { name := "fnExactBatGate", fn := fun _ => fun
  | [d] => { results := [.lit (.bool false)], args := [d] }
  | _ => none }
def FnExactBatGateWrongFalsely : Prop := fnExactBatGateRow.holds Try.pinned (OpenSpec.ofChange fnExactBatGateWrong)

/-- 'laws.FnExactStoNew': WHATEVER THE INPUT: true; the input reads as it did. -/
def fnExactStoNewSpec : ChangeSpec := { name := "fnExactStoNew", fn := fun _ => fun
  | [d] => { results := [.lit (.bool true)], args := [d] }
  | _ => none }
def fnExactStoNewRow : OpenClaim := { program := "ytijolcgmciclhaa", sum := "1e2bdaae11593f03453393ef95ad820b598292798fffd35cb8753055248225b3", func := "loop.example/cupel/laws.FnExactStoNew", spec := "fnExactStoNew", unfollowed := true, recurses := true, apart := false }
def FnExactStoNewSaid : Prop := fnExactStoNewRow.holds Try.pinned (OpenSpec.ofChange fnExactStoNewSpec)

/-- ITS FALSE NEIGHBOUR: 'it returns false'. Refute it at one input. -/
def fnExactStoNewWrong : ChangeSpec := { name := "fnExactStoNew", fn := fun _ => fun
  | [d] => { results := [.lit (.bool false)], args := [d] }
  | _ => none }
def FnExactStoNewWrongFalsely : Prop := fnExactStoNewRow.holds Try.pinned (OpenSpec.ofChange fnExactStoNewWrong)

/-- 'laws.FnStoAbout': WHATEVER THE INPUT: true; the input reads as it did. -/
def fnStoAboutSpec : ChangeSpec := { name := "fnStoAbout", fn := fun _ => fun
  | [d] => { results := [.lit (.bool true)], args := [d] }
  | _ => none }
def fnStoAboutRow : OpenClaim := { program := "ytijolcgmciclhaa", sum := "1e2bdaae11593f03453393ef95ad820b598292798fffd35cb8753055248225b3", func := "loop.example/cupel/laws.FnStoAbout", spec := "fnStoAbout", recurses := true, apart := false }
def FnStoAboutSaid : Prop := fnStoAboutRow.holds Try.pinned (OpenSpec.ofChange fnStoAboutSpec)

/-- ITS FALSE NEIGHBOUR: 'it returns false'. Refute it at one input. -/
def fnStoAboutWrong : ChangeSpec := { name := "fnStoAbout", fn := fun _ => fun
  | [d] => { results := [.lit (.bool false)], args := [d] }
  | _ => none }
def FnStoAboutWrongFalsely : Prop := fnStoAboutRow.holds Try.pinned (OpenSpec.ofChange fnStoAboutWrong)

/-- 'laws.FnExactCerOf': WHATEVER THE INPUT: true; the input reads as it did. -/
def fnExactCerOfSpec : ChangeSpec := { name := "fnExactCerOf", fn := fun _ => fun
  | [d] => { results := [.lit (.bool true)], args := [d] }
  | _ => none }
def fnExactCerOfRow : OpenClaim := { program := "ytijolcgmciclhaa", sum := "1e2bdaae11593f03453393ef95ad820b598292798fffd35cb8753055248225b3", func := "loop.example/cupel/laws.FnExactCerOf", spec := "fnExactCerOf", unfollowed := true, recurses := true, apart := false }
def FnExactCerOfSaid : Prop := fnExactCerOfRow.holds Try.pinned (OpenSpec.ofChange fnExactCerOfSpec)

/-- ITS FALSE NEIGHBOUR: 'it returns false'. Refute it at one input. -/
def fnExactCerOfWrong : ChangeSpec := { name := "fnExactCerOf", fn := fun _ => fun
  | [d] => { results := [.lit (.bool false)], args := [d] }
  | _ => none }
def FnExactCerOfWrongFalsely : Prop := fnExactCerOfRow.holds Try.pinned (OpenSpec.ofChange fnExactCerOfWrong)

/- THE SECOND FORM. 'bulk': how many values and letters a reading holds, each counted each time it is reached (what is shared counts as often as it is met; a slice's spare places count too). A statement '..UptoSaid' is the law's where the arguments, and the package variables that the reading takes, are together of bulk at most 1048576: NARROWER than '..Said'. Prove '..Said' where nothing that the law and all that it calls make is longer than what came in: it says more and counts as full. Else prove '..UptoSaid'. A law counts once. -/
mutual
def uptoBulk {H : Type} : DataW H → Nat
  | .lit (.string bytes) => bytes.length + 1
  | .lit _ => 1
  | .nil => 1
  | .ptr d => uptoBulk d + 1
  | .slice elems spare => uptoBulkAll elems + uptoBulkAll spare + 1
  | .agg parts => uptoBulkAll parts + 1
  | .iface _ d => uptoBulk d + 1
  | .map entries => uptoBulkEntries entries + 1
  | .held _ => 1
def uptoBulkAll {H : Type} : List (DataW H) → Nat
  | [] => 0
  | d :: r => uptoBulk d + uptoBulkAll r
def uptoBulkEntries {H : Type} : List (Lit × DataW H) → Nat
  | [] => 0
  | x :: r => uptoBulkEntry x + uptoBulkEntries r
def uptoBulkEntry {H : Type} : Lit × DataW H → Nat
  | (.string bytes, d) => bytes.length + uptoBulk d + 1
  | (_, d) => uptoBulk d + 1
 end
def uptoSmall : (H : Type) → List (DataW H) → Bool := fun _ ds => decide (uptoBulkAll ds ≤ 1048576)
def OpenSpec.upto (s : _root_.Go.ChangeSpec) : _root_.Go.OpenSpec := { _root_.Go.OpenSpec.ofChange s with cond := some uptoSmall }

/-- 'laws.FnTstPut', WHERE WHAT IT READS IS OF BULK AT MOST 1048576: true; the input reads as it did. -/
def fnTstPutUptoRow : OpenClaim := { program := "ytijolcgmciclhaa", sum := "1e2bdaae11593f03453393ef95ad820b598292798fffd35cb8753055248225b3", func := "loop.example/cupel/laws.FnTstPut", spec := "fnTstPut", unfollowed := true, recurses := true, apart := false, narrowed := true }
def FnTstPutUptoSaid : Prop := fnTstPutUptoRow.holds Try.pinned (OpenSpec.upto fnTstPutSpec)

/-- 'laws.FnTstCause', WHERE WHAT IT READS IS OF BULK AT MOST 1048576: true; the input reads as it did. -/
def fnTstCauseUptoRow : OpenClaim := { program := "ytijolcgmciclhaa", sum := "1e2bdaae11593f03453393ef95ad820b598292798fffd35cb8753055248225b3", func := "loop.example/cupel/laws.FnTstCause", spec := "fnTstCause", unfollowed := true, recurses := true, apart := false, narrowed := true }
def FnTstCauseUptoSaid : Prop := fnTstCauseUptoRow.holds Try.pinned (OpenSpec.upto fnTstCauseSpec)

/-- 'laws.FnTstEnds', WHERE WHAT IT READS IS OF BULK AT MOST 1048576: true; the input reads as it did. -/
def fnTstEndsUptoRow : OpenClaim := { program := "ytijolcgmciclhaa", sum := "1e2bdaae11593f03453393ef95ad820b598292798fffd35cb8753055248225b3", func := "loop.example/cupel/laws.FnTstEnds", spec := "fnTstEnds", unfollowed := true, recurses := true, apart := false, narrowed := true }
def FnTstEndsUptoSaid : Prop := fnTstEndsUptoRow.holds Try.pinned (OpenSpec.upto fnTstEndsSpec)

/-- 'laws.FnTstMore', WHERE WHAT IT READS IS OF BULK AT MOST 1048576: true; the input reads as it did. -/
def fnTstMoreUptoRow : OpenClaim := { program := "ytijolcgmciclhaa", sum := "1e2bdaae11593f03453393ef95ad820b598292798fffd35cb8753055248225b3", func := "loop.example/cupel/laws.FnTstMore", spec := "fnTstMore", unfollowed := true, recurses := true, apart := false, narrowed := true }
def FnTstMoreUptoSaid : Prop := fnTstMoreUptoRow.holds Try.pinned (OpenSpec.upto fnTstMoreSpec)

/-- 'laws.FnExactBatNew', WHERE WHAT IT READS IS OF BULK AT MOST 1048576: true; the input reads as it did. -/
def fnExactBatNewUptoRow : OpenClaim := { program := "ytijolcgmciclhaa", sum := "1e2bdaae11593f03453393ef95ad820b598292798fffd35cb8753055248225b3", func := "loop.example/cupel/laws.FnExactBatNew", spec := "fnExactBatNew", recurses := true, apart := false, narrowed := true }
def FnExactBatNewUptoSaid : Prop := fnExactBatNewUptoRow.holds Try.pinned (OpenSpec.upto fnExactBatNewSpec)

/-- 'laws.FnExactBatOk', WHERE WHAT IT READS IS OF BULK AT MOST 1048576: true; the input reads as it did. -/
def fnExactBatOkUptoRow : OpenClaim := { program := "ytijolcgmciclhaa", sum := "1e2bdaae11593f03453393ef95ad820b598292798fffd35cb8753055248225b3", func := "loop.example/cupel/laws.FnExactBatOk", spec := "fnExactBatOk", unfollowed := true, recurses := true, apart := false, narrowed := true }
def FnExactBatOkUptoSaid : Prop := fnExactBatOkUptoRow.holds Try.pinned (OpenSpec.upto fnExactBatOkSpec)

/-- 'laws.FnExactBatGate', WHERE WHAT IT READS IS OF BULK AT MOST 1048576: true; the input reads as it did. -/
def fnExactBatGateUptoRow : OpenClaim := { program := "ytijolcgmciclhaa", sum := "1e2bdaae11593f03453393ef95ad820b598292798fffd35cb8753055248225b3", func := "loop.example/cupel/laws.FnExactBatGate", spec := "fnExactBatGate", unfollowed := true, recurses := true, apart := false, narrowed := true }
def FnExactBatGateUptoSaid : Prop := fnExactBatGateUptoRow.holds Try.pinned (OpenSpec.upto fnExactBatGateSpec)

/-- 'laws.FnExactStoNew', WHERE WHAT IT READS IS OF BULK AT MOST 1048576: true; the input reads as it did. -/
def fnExactStoNewUptoRow : OpenClaim := { program := "ytijolcgmciclhaa", sum := "1e2bdaae11593f03453393ef95ad820b598292798fffd35cb8753055248225b3", func := "loop.example/cupel/laws.FnExactStoNew", spec := "fnExactStoNew", unfollowed := true, recurses := true, apart := false, narrowed := true }
def FnExactStoNewUptoSaid : Prop := fnExactStoNewUptoRow.holds Try.pinned (OpenSpec.upto fnExactStoNewSpec)

/-- 'laws.FnStoAbout', WHERE WHAT IT READS IS OF BULK AT MOST 1048576: true; the input reads as it did. -/
def fnStoAboutUptoRow : OpenClaim := { program := "ytijolcgmciclhaa", sum := "1e2bdaae11593f03453393ef95ad820b598292798fffd35cb8753055248225b3", func := "loop.example/cupel/laws.FnStoAbout", spec := "fnStoAbout", recurses := true, apart := false, narrowed := true }
def FnStoAboutUptoSaid : Prop := fnStoAboutUptoRow.holds Try.pinned (OpenSpec.upto fnStoAboutSpec)

/-- 'laws.FnExactCerOf', WHERE WHAT IT READS IS OF BULK AT MOST 1048576: true; the input reads as it did. -/
def fnExactCerOfUptoRow : OpenClaim := { program := "ytijolcgmciclhaa", sum := "1e2bdaae11593f03453393ef95ad820b598292798fffd35cb8753055248225b3", func := "loop.example/cupel/laws.FnExactCerOf", spec := "fnExactCerOf", unfollowed := true, recurses := true, apart := false, narrowed := true }
def FnExactCerOfUptoSaid : Prop := fnExactCerOfUptoRow.holds Try.pinned (OpenSpec.upto fnExactCerOfSpec)

end Rows
end Go.Proofs.Ytijolcgmciclhaa
