/-
  No cell of these rows narrows 'for every input' (looked for: loops, veiled, ifaces, maps, wideKeys, modest, calm, conditions, laid).
  DERIVED. THE GIVEN ROWS OF THIS SEAT. 11 by the template 'for every input the law returns true; each argument reads behind the call as it read before'; 0 by the template 'total and deterministic' (their statements: YtkjimaolpijoiaaTotals.lean).
  GIVEN WITH THE SEED: the statements are not yours to turn. If you find one false, say at which input.
  Laid BY PROGRAM, IN A SANDBOX (cutbox-rows.mjs): the forced cells as the released guide's own fill.sh prints them over the translation 7d07ce018e3d4ed8… (all of the seat's roots in one cut). By AI agents, Wed Nov 11 2026. No macro, syntax, notation, axiom, sorry.
-/
import Derived.Test.YtkjimaolpijoiaaChecked
import GoSem.Claim
import GoSem.ClaimJoined
import GoSem.ClaimMapViews
import Derived.JoinedTies
import Derived.KernelRfl
namespace Go.Proofs.Ytkjimaolpijoiaa
/- THE CELL 'sum', in the pinned program and in every row, IS THE sha256 OF THE DUMP (.gsa) THAT YtkjimaolpijoiaaProg.lean LOADS. Nothing in Lean hashes anything: it is a label: what it is worth is what the hold of that sum in a sandbox is worth. -/
noncomputable def Try.pinned : Pinned := { name := "ytkjimaolpijoiaa", sum := "7d07ce018e3d4ed8ec7ff5c36ce0efaa0a1364ff0e5c3a5b53e1469ef6b53381", checked := Try.checked }
namespace Rows
def none {H : Type} : Left H := { results := [], args := [] }

/-- 'laws.FnExactSpcIn': WHATEVER THE INPUT: true; the input reads as it did. -/
def fnExactSpcInSpec : ChangeSpec := { name := "fnExactSpcIn", fn := fun _ => fun
  | [d1, d2] => { results := [.lit (.bool true)], args := [d1, d2] }
  | _ => none }
def fnExactSpcInRow : OpenClaim := { program := "ytkjimaolpijoiaa", sum := "7d07ce018e3d4ed8ec7ff5c36ce0efaa0a1364ff0e5c3a5b53e1469ef6b53381", func := "loop.example/cupel/laws.FnExactSpcIn", spec := "fnExactSpcIn", recurses := true, apart := false }
def FnExactSpcInSaid : Prop := fnExactSpcInRow.holds Try.pinned (OpenSpec.ofChange fnExactSpcInSpec)

/-- ITS FALSE NEIGHBOUR: 'it returns false'. Refute it at one input. -/
def fnExactSpcInWrong : ChangeSpec := { name := "fnExactSpcIn", fn := fun _ => fun
  | [d1, d2] => { results := [.lit (.bool false)], args := [d1, d2] }
  | _ => none }
def FnExactSpcInWrongFalsely : Prop := fnExactSpcInRow.holds Try.pinned (OpenSpec.ofChange fnExactSpcInWrong)

/-- 'laws.FnExactSpcTestsOk': WHATEVER THE INPUT: true; the input reads as it did. -/
def fnExactSpcTestsOkSpec : ChangeSpec := { name := "fnExactSpcTestsOk", fn := fun _ => fun
  | [d] => { results := [.lit (.bool true)], args := [d] }
  | _ => none }
def fnExactSpcTestsOkRow : OpenClaim := { program := "ytkjimaolpijoiaa", sum := "7d07ce018e3d4ed8ec7ff5c36ce0efaa0a1364ff0e5c3a5b53e1469ef6b53381", func := "loop.example/cupel/laws.FnExactSpcTestsOk", spec := "fnExactSpcTestsOk", recurses := true, apart := false }
def FnExactSpcTestsOkSaid : Prop := fnExactSpcTestsOkRow.holds Try.pinned (OpenSpec.ofChange fnExactSpcTestsOkSpec)

/-- ITS FALSE NEIGHBOUR: 'it returns false'. Refute it at one input. -/
def fnExactSpcTestsOkWrong : ChangeSpec := { name := "fnExactSpcTestsOk", fn := fun _ => fun
  | [d] => { results := [.lit (.bool false)], args := [d] }
  | _ => none }
def FnExactSpcTestsOkWrongFalsely : Prop := fnExactSpcTestsOkRow.holds Try.pinned (OpenSpec.ofChange fnExactSpcTestsOkWrong)

/-- 'laws.FnSpcTests': WHATEVER THE INPUT: true; the input reads as it did. -/
def fnSpcTestsSpec : ChangeSpec := { name := "fnSpcTests", fn := fun _ => fun
  | [d] => { results := [.lit (.bool true)], args := [d] }
  | _ => none }
def fnSpcTestsRow : OpenClaim := { program := "ytkjimaolpijoiaa", sum := "7d07ce018e3d4ed8ec7ff5c36ce0efaa0a1364ff0e5c3a5b53e1469ef6b53381", func := "loop.example/cupel/laws.FnSpcTests", spec := "fnSpcTests", unfollowed := true, recurses := true, apart := false }
def FnSpcTestsSaid : Prop := fnSpcTestsRow.holds Try.pinned (OpenSpec.ofChange fnSpcTestsSpec)

/-- ITS FALSE NEIGHBOUR: 'it returns false'. Refute it at one input. -/
def fnSpcTestsWrong : ChangeSpec := { name := "fnSpcTests", fn := fun _ => fun
  | [d] => { results := [.lit (.bool false)], args := [d] }
  | _ => none }
def FnSpcTestsWrongFalsely : Prop := fnSpcTestsRow.holds Try.pinned (OpenSpec.ofChange fnSpcTestsWrong)

/-- 'laws.FnSpcIn': WHATEVER THE INPUT: true; the input reads as it did. -/
def fnSpcInSpec : ChangeSpec := { name := "fnSpcIn", fn := fun _ => fun
  | [d] => { results := [.lit (.bool true)], args := [d] }
  | _ => none }
def fnSpcInRow : OpenClaim := { program := "ytkjimaolpijoiaa", sum := "7d07ce018e3d4ed8ec7ff5c36ce0efaa0a1364ff0e5c3a5b53e1469ef6b53381", func := "loop.example/cupel/laws.FnSpcIn", spec := "fnSpcIn", recurses := true, apart := false }
def FnSpcInSaid : Prop := fnSpcInRow.holds Try.pinned (OpenSpec.ofChange fnSpcInSpec)

/-- ITS FALSE NEIGHBOUR: 'it returns false'. Refute it at one input. -/
def fnSpcInWrong : ChangeSpec := { name := "fnSpcIn", fn := fun _ => fun
  | [d] => { results := [.lit (.bool false)], args := [d] }
  | _ => none }
def FnSpcInWrongFalsely : Prop := fnSpcInRow.holds Try.pinned (OpenSpec.ofChange fnSpcInWrong)

/-- 'laws.FnTstNew': WHATEVER THE INPUT: true; the input reads as it did. -/
def fnTstNewSpec : ChangeSpec := { name := "fnTstNew", fn := fun _ => fun
  | [d1, d2] => { results := [.lit (.bool true)], args := [d1, d2] }
  | _ => none }
def fnTstNewRow : OpenClaim := { program := "ytkjimaolpijoiaa", sum := "7d07ce018e3d4ed8ec7ff5c36ce0efaa0a1364ff0e5c3a5b53e1469ef6b53381", func := "loop.example/cupel/laws.FnTstNew", spec := "fnTstNew", unfollowed := true, recurses := true, apart := false }
def FnTstNewSaid : Prop := fnTstNewRow.holds Try.pinned (OpenSpec.ofChange fnTstNewSpec)

/-- ITS FALSE NEIGHBOUR: 'it returns false'. Refute it at one input. -/
def fnTstNewWrong : ChangeSpec := { name := "fnTstNew", fn := fun _ => fun
  | [d1, d2] => { results := [.lit (.bool false)], args := [d1, d2] }
  | _ => none }
def FnTstNewWrongFalsely : Prop := fnTstNewRow.holds Try.pinned (OpenSpec.ofChange fnTstNewWrong)

/-- 'laws.FnExactSpcOk': WHATEVER THE INPUT: true; the input reads as it did. -/
def fnExactSpcOkSpec : ChangeSpec := { name := "fnExactSpcOk", fn := fun _ => fun
  | [d] => { results := [.lit (.bool true)], args := [d] }
  | _ => none }
def fnExactSpcOkRow : OpenClaim := { program := "ytkjimaolpijoiaa", sum := "7d07ce018e3d4ed8ec7ff5c36ce0efaa0a1364ff0e5c3a5b53e1469ef6b53381", func := "loop.example/cupel/laws.FnExactSpcOk", spec := "fnExactSpcOk", recurses := true, apart := false }
def FnExactSpcOkSaid : Prop := fnExactSpcOkRow.holds Try.pinned (OpenSpec.ofChange fnExactSpcOkSpec)

/-- ITS FALSE NEIGHBOUR: 'it returns false'. Refute it at one input. -/
def fnExactSpcOkWrong : ChangeSpec := { name := "fnExactSpcOk", fn := fun _ => fun
  | [d] => { results := [.lit (.bool false)], args := [d] }
  | _ => none }
def FnExactSpcOkWrongFalsely : Prop := fnExactSpcOkRow.holds Try.pinned (OpenSpec.ofChange fnExactSpcOkWrong)

/-- 'laws.FnExactCerOk': WHATEVER THE INPUT: true; the input reads as it did. -/
def fnExactCerOkSpec : ChangeSpec := { name := "fnExactCerOk", fn := fun _ => fun
  | [d] => { results := [.lit (.bool true)], args := [d] }
  | _ => none }
def fnExactCerOkRow : OpenClaim := { program := "ytkjimaolpijoiaa", sum := "7d07ce018e3d4ed8ec7ff5c36ce0efaa0a1364ff0e5c3a5b53e1469ef6b53381", func := "loop.example/cupel/laws.FnExactCerOk", spec := "fnExactCerOk", recurses := true, apart := false }
def FnExactCerOkSaid : Prop := fnExactCerOkRow.holds Try.pinned (OpenSpec.ofChange fnExactCerOkSpec)

/-- ITS FALSE NEIGHBOUR: 'it returns false'. Refute it at one input. -/
def fnExactCerOkWrong : ChangeSpec := { name := "fnExactCerOk", fn := fun _ => fun
  | [d] => { results := [.lit (.bool false)], args := [d] }
  | _ => none }
def FnExactCerOkWrongFalsely : Prop := fnExactCerOkRow.holds Try.pinned (OpenSpec.ofChange fnExactCerOkWrong)

/-- 'laws.FnSpcAdd': WHATEVER THE INPUT: true; the input reads as it did. -/
def fnSpcAddSpec : ChangeSpec := { name := "fnSpcAdd", fn := fun _ => fun
  | [d] => { results := [.lit (.bool true)], args := [d] }
  | _ => none }
def fnSpcAddRow : OpenClaim := { program := "ytkjimaolpijoiaa", sum := "7d07ce018e3d4ed8ec7ff5c36ce0efaa0a1364ff0e5c3a5b53e1469ef6b53381", func := "loop.example/cupel/laws.FnSpcAdd", spec := "fnSpcAdd", unfollowed := true, recurses := true, apart := false }
def FnSpcAddSaid : Prop := fnSpcAddRow.holds Try.pinned (OpenSpec.ofChange fnSpcAddSpec)

/-- ITS FALSE NEIGHBOUR: 'it returns false'. Refute it at one input. -/
def fnSpcAddWrong : ChangeSpec := { name := "fnSpcAdd", fn := fun _ => fun
  | [d] => { results := [.lit (.bool false)], args := [d] }
  | _ => none }
def FnSpcAddWrongFalsely : Prop := fnSpcAddRow.holds Try.pinned (OpenSpec.ofChange fnSpcAddWrong)

/-- 'laws.FnSpcRaise': WHATEVER THE INPUT: true; the input reads as it did. -/
def fnSpcRaiseSpec : ChangeSpec := { name := "fnSpcRaise", fn := fun _ => fun
  | [d] => { results := [.lit (.bool true)], args := [d] }
  | _ => none }
def fnSpcRaiseRow : OpenClaim := { program := "ytkjimaolpijoiaa", sum := "7d07ce018e3d4ed8ec7ff5c36ce0efaa0a1364ff0e5c3a5b53e1469ef6b53381", func := "loop.example/cupel/laws.FnSpcRaise", spec := "fnSpcRaise", unfollowed := true, recurses := true, apart := false }
def FnSpcRaiseSaid : Prop := fnSpcRaiseRow.holds Try.pinned (OpenSpec.ofChange fnSpcRaiseSpec)

/-- ITS FALSE NEIGHBOUR: 'it returns false'. Refute it at one input. -/
def fnSpcRaiseWrong : ChangeSpec := { name := "fnSpcRaise", fn := fun _ => fun
  | [d] => { results := [.lit (.bool false)], args := [d] }
  | _ => none }
def FnSpcRaiseWrongFalsely : Prop := fnSpcRaiseRow.holds Try.pinned (OpenSpec.ofChange fnSpcRaiseWrong)

/-- 'laws.FnExactTstOk': WHATEVER THE INPUT: true; the input reads as it did. -/
def fnExactTstOkSpec : ChangeSpec := { name := "fnExactTstOk", fn := fun _ => fun
  | [d] => { results := [.lit (.bool true)], args := [d] }
  | _ => none }
def fnExactTstOkRow : OpenClaim := { program := "ytkjimaolpijoiaa", sum := "7d07ce018e3d4ed8ec7ff5c36ce0efaa0a1364ff0e5c3a5b53e1469ef6b53381", func := "loop.example/cupel/laws.FnExactTstOk", spec := "fnExactTstOk", unfollowed := true, recurses := true, apart := false }
def FnExactTstOkSaid : Prop := fnExactTstOkRow.holds Try.pinned (OpenSpec.ofChange fnExactTstOkSpec)

/-- ITS FALSE NEIGHBOUR: 'it returns false'. Refute it at one input. -/
def fnExactTstOkWrong : ChangeSpec := { name := "fnExactTstOk", fn := fun _ => fun
  | [d] => { results := [.lit (.bool false)], args := [d] }
  | _ => none }
def FnExactTstOkWrongFalsely : Prop := fnExactTstOkRow.holds Try.pinned (OpenSpec.ofChange fnExactTstOkWrong)

/-- 'laws.FnExactTstTell': WHATEVER THE INPUT: true; the input reads as it did. -/
def fnExactTstTellSpec : ChangeSpec := { name := "fnExactTstTell", fn := fun _ => fun
  | [d] => { results := [.lit (.bool true)], args := [d] }
  | _ => none }
def fnExactTstTellRow : OpenClaim := { program := "ytkjimaolpijoiaa", sum := "7d07ce018e3d4ed8ec7ff5c36ce0efaa0a1364ff0e5c3a5b53e1469ef6b53381", func := "loop.example/cupel/laws.FnExactTstTell", spec := "fnExactTstTell", unfollowed := true, recurses := true, apart := false }
def FnExactTstTellSaid : Prop := fnExactTstTellRow.holds Try.pinned (OpenSpec.ofChange fnExactTstTellSpec)

/-- ITS FALSE NEIGHBOUR: 'it returns false'. Refute it at one input. -/
def fnExactTstTellWrong : ChangeSpec := { name := "fnExactTstTell", fn := fun _ => fun
  | [d] => { results := [.lit (.bool false)], args := [d] }
  | _ => none }
def FnExactTstTellWrongFalsely : Prop := fnExactTstTellRow.holds Try.pinned (OpenSpec.ofChange fnExactTstTellWrong)

/- THE SECOND FORM. 'bulk': how many values and letters a reading holds, each counted each time it is reached (what is shared counts as often as it is met; a slice's spare places count too). A statement '..UptoSaid' is the law's where the arguments, and the package variables that the reading takes, are together of bulk at most 1048576: NARROWER than '..Said'. Prove '..Said' where nothing that the law and all that it calls make is longer than what came in: it says more and counts as full. Else prove '..UptoSaid'. A law counts once. -/
mutual
def uptoBulk {H : Type} : DataW H → Nat
  | .lit (.string bytes) => bytes.length + 1
  | .lit _ => 1
  | .nil => 1
  | .ptr d => uptoBulk d + 1
  | .slice elems spare => uptoBulkAll elems + uptoBulkAll spare + 1
  | .agg parts => uptoBulkAll parts + 1
  | .iface _ d => uptoBulk d + 1
  | .map entries => uptoBulkEntries entries + 1
  | .held _ => 1
def uptoBulkAll {H : Type} : List (DataW H) → Nat
  | [] => 0
  | d :: r => uptoBulk d + uptoBulkAll r
def uptoBulkEntries {H : Type} : List (Lit × DataW H) → Nat
  | [] => 0
  | x :: r => uptoBulkEntry x + uptoBulkEntries r
def uptoBulkEntry {H : Type} : Lit × DataW H → Nat
  | (.string bytes, d) => bytes.length + uptoBulk d + 1
  | (_, d) => uptoBulk d + 1
 end
def uptoSmall : (H : Type) → List (DataW H) → Bool := fun _ ds => decide (uptoBulkAll ds ≤ 1048576)
def OpenSpec.upto (s : _root_.Go.ChangeSpec) : _root_.Go.OpenSpec := { _root_.Go.OpenSpec.ofChange s with cond := some uptoSmall }

/-- 'laws.FnExactSpcIn', WHERE WHAT IT READS IS OF BULK AT MOST 1048576: true; the input reads as it did. -/
def fnExactSpcInUptoRow : OpenClaim := { program := "ytkjimaolpijoiaa", sum := "7d07ce018e3d4ed8ec7ff5c36ce0efaa0a1364ff0e5c3a5b53e1469ef6b53381", func := "loop.example/cupel/laws.FnExactSpcIn", spec := "fnExactSpcIn", recurses := true, apart := false, narrowed := true }
def FnExactSpcInUptoSaid : Prop := fnExactSpcInUptoRow.holds Try.pinned (OpenSpec.upto fnExactSpcInSpec)

/-- 'laws.FnExactSpcTestsOk', WHERE WHAT IT READS IS OF BULK AT MOST 1048576: true; the input reads as it did. -/
def fnExactSpcTestsOkUptoRow : OpenClaim := { program := "ytkjimaolpijoiaa", sum := "7d07ce018e3d4ed8ec7ff5c36ce0efaa0a1364ff0e5c3a5b53e1469ef6b53381", func := "loop.example/cupel/laws.FnExactSpcTestsOk", spec := "fnExactSpcTestsOk", recurses := true, apart := false, narrowed := true }
def FnExactSpcTestsOkUptoSaid : Prop := fnExactSpcTestsOkUptoRow.holds Try.pinned (OpenSpec.upto fnExactSpcTestsOkSpec)

/-- 'laws.FnSpcTests', WHERE WHAT IT READS IS OF BULK AT MOST 1048576: true; the input reads as it did. -/
def fnSpcTestsUptoRow : OpenClaim := { program := "ytkjimaolpijoiaa", sum := "7d07ce018e3d4ed8ec7ff5c36ce0efaa0a1364ff0e5c3a5b53e1469ef6b53381", func := "loop.example/cupel/laws.FnSpcTests", spec := "fnSpcTests", unfollowed := true, recurses := true, apart := false, narrowed := true }
def FnSpcTestsUptoSaid : Prop := fnSpcTestsUptoRow.holds Try.pinned (OpenSpec.upto fnSpcTestsSpec)

/-- 'laws.FnSpcIn', WHERE WHAT IT READS IS OF BULK AT MOST 1048576: true; the input reads as it did. -/
def fnSpcInUptoRow : OpenClaim := { program := "ytkjimaolpijoiaa", sum := "7d07ce018e3d4ed8ec7ff5c36ce0efaa0a1364ff0e5c3a5b53e1469ef6b53381", func := "loop.example/cupel/laws.FnSpcIn", spec := "fnSpcIn", recurses := true, apart := false, narrowed := true }
def FnSpcInUptoSaid : Prop := fnSpcInUptoRow.holds Try.pinned (OpenSpec.upto fnSpcInSpec)

/-- 'laws.FnTstNew', WHERE WHAT IT READS IS OF BULK AT MOST 1048576: true; the input reads as it did. -/
def fnTstNewUptoRow : OpenClaim := { program := "ytkjimaolpijoiaa", sum := "7d07ce018e3d4ed8ec7ff5c36ce0efaa0a1364ff0e5c3a5b53e1469ef6b53381", func := "loop.example/cupel/laws.FnTstNew", spec := "fnTstNew", unfollowed := true, recurses := true, apart := false, narrowed := true }
def FnTstNewUptoSaid : Prop := fnTstNewUptoRow.holds Try.pinned (OpenSpec.upto fnTstNewSpec)

/-- 'laws.FnExactSpcOk', WHERE WHAT IT READS IS OF BULK AT MOST 1048576: true; the input reads as it did. -/
def fnExactSpcOkUptoRow : OpenClaim := { program := "ytkjimaolpijoiaa", sum := "7d07ce018e3d4ed8ec7ff5c36ce0efaa0a1364ff0e5c3a5b53e1469ef6b53381", func := "loop.example/cupel/laws.FnExactSpcOk", spec := "fnExactSpcOk", recurses := true, apart := false, narrowed := true }
def FnExactSpcOkUptoSaid : Prop := fnExactSpcOkUptoRow.holds Try.pinned (OpenSpec.upto fnExactSpcOkSpec)

/-- 'laws.FnExactCerOk', WHERE WHAT IT READS IS OF BULK AT MOST 1048576: true; the input reads as it did. -/
def fnExactCerOkUptoRow : OpenClaim := { program := "ytkjimaolpijoiaa", sum := "7d07ce018e3d4ed8ec7ff5c36ce0efaa0a1364ff0e5c3a5b53e1469ef6b53381", func := "loop.example/cupel/laws.FnExactCerOk", spec := "fnExactCerOk", recurses := true, apart := false, narrowed := true }
def FnExactCerOkUptoSaid : Prop := fnExactCerOkUptoRow.holds Try.pinned (OpenSpec.upto fnExactCerOkSpec)

/-- 'laws.FnSpcAdd', WHERE WHAT IT READS IS OF BULK AT MOST 1048576: true; the input reads as it did. -/
def fnSpcAddUptoRow : OpenClaim := { program := "ytkjimaolpijoiaa", sum := "7d07ce018e3d4ed8ec7ff5c36ce0efaa0a1364ff0e5c3a5b53e1469ef6b53381", func := "loop.example/cupel/laws.FnSpcAdd", spec := "fnSpcAdd", unfollowed := true, recurses := true, apart := false, narrowed := true }
def FnSpcAddUptoSaid : Prop := fnSpcAddUptoRow.holds Try.pinned (OpenSpec.upto fnSpcAddSpec)

/-- 'laws.FnSpcRaise', WHERE WHAT IT READS IS OF BULK AT MOST 1048576: true; the input reads as it did. -/
def fnSpcRaiseUptoRow : OpenClaim := { program := "ytkjimaolpijoiaa", sum := "7d07ce018e3d4ed8ec7ff5c36ce0efaa0a1364ff0e5c3a5b53e1469ef6b53381", func := "loop.example/cupel/laws.FnSpcRaise", spec := "fnSpcRaise", unfollowed := true, recurses := true, apart := false, narrowed := true }
def FnSpcRaiseUptoSaid : Prop := fnSpcRaiseUptoRow.holds Try.pinned (OpenSpec.upto fnSpcRaiseSpec)

/-- 'laws.FnExactTstOk', WHERE WHAT IT READS IS OF BULK AT MOST 1048576: true; the input reads as it did. -/
def fnExactTstOkUptoRow : OpenClaim := { program := "ytkjimaolpijoiaa", sum := "7d07ce018e3d4ed8ec7ff5c36ce0efaa0a1364ff0e5c3a5b53e1469ef6b53381", func := "loop.example/cupel/laws.FnExactTstOk", spec := "fnExactTstOk", unfollowed := true, recurses := true, apart := false, narrowed := true }
def FnExactTstOkUptoSaid : Prop := fnExactTstOkUptoRow.holds Try.pinned (OpenSpec.upto fnExactTstOkSpec)

/-- 'laws.FnExactTstTell', WHERE WHAT IT READS IS OF BULK AT MOST 1048576: true; the input reads as it did. -/
def fnExactTstTellUptoRow : OpenClaim := { program := "ytkjimaolpijoiaa", sum := "7d07ce018e3d4ed8ec7ff5c36ce0efaa0a1364ff0e5c3a5b53e1469ef6b53381", func := "loop.example/cupel/laws.FnExactTstTell", spec := "fnExactTstTell", unfollowed := true, recurses := true, apart := false, narrowed := true }
def FnExactTstTellUptoSaid : Prop := fnExactTstTellUptoRow.holds Try.pinned (OpenSpec.upto fnExactTstTellSpec)

end Rows
end Go.Proofs.Ytkjimaolpijoiaa
