/-
  No cell of these rows narrows 'for every input' (looked for: loops, veiled, ifaces, maps, wideKeys, modest, calm, conditions, laid).
  DERIVED. THE GIVEN ROWS OF THIS SEAT. 12 by the template 'for every input the law returns true; each argument reads behind the call as it read before'; 0 by the template 'total and deterministic' (their statements: YtddpemilmeijfaaGreatTotals.lean).
  GIVEN WITH THE SEED: the statements are not yours to turn. If you find one false, say at which input.
  Laid BY PROGRAM, IN A SANDBOX (cutbox-rows.mjs): the forced cells as the released guide's own fill.sh prints them over the translation 8f184eb3ee399006… (all of the seat's roots in one cut). By AI agents, Wed Nov 11 2026. No macro, syntax, notation, axiom, sorry.
-/
import Derived.Test.YtddpemilmeijfaaGreatChecked
import GoSem.Claim
import GoSem.ClaimJoined
import GoSem.ClaimMapViews
import Derived.JoinedTies
import Derived.KernelRfl
namespace Go.Proofs.YtddpemilmeijfaaGreat
/- THE CELL 'sum', in the pinned program and in every row, IS THE sha256 OF THE DUMP (.gsa) THAT YtddpemilmeijfaaGreatProg.lean LOADS. Nothing in Lean hashes anything: it is a label: what it is worth is what the hold of that sum in a sandbox is worth. -/
noncomputable def Tryz.pinned : Pinned := { name := "ytddpemilmeijfaagreat", sum := "8f184eb3ee399006330102aed65546b55a8dcb4b28814189dd54f8c7e2edaeee", checked := Tryz.checked }
namespace Rows
def none {H : Type} : Left H := { results := [], args := [] }

/-- 'laws.FnHouApart': WHATEVER THE INPUT: true; the input reads as it did. -/
def fnHouApartSpec : ChangeSpec := { name := "fnHouApart", fn := fun _ => fun
  | [d] => { results := [.lit (.bool true)], args := [d] }
  | _ => none }
def fnHouApartRow : OpenClaim := { program := "ytddpemilmeijfaagreat", sum := "8f184eb3ee399006330102aed65546b55a8dcb4b28814189dd54f8c7e2edaeee", func := "loop.example/cupel/laws.FnHouApart", spec := "fnHouApart", inPlace := ["internal/bytealg.IndexByteString", "internal/bytealg.IndexString"], unfollowed := true, recurses := true, named := ["internal/bytealg.MaxLen"], apart := false }
def FnHouApartSaid : Prop := fnHouApartRow.holds Tryz.pinned (OpenSpec.ofChange fnHouApartSpec)

/-- ITS FALSE NEIGHBOUR: 'it returns false'. Refute it at one input. -/
def fnHouApartWrong : ChangeSpec := { name := "fnHouApart", fn := fun _ => fun
  | [d] => { results := [.lit (.bool false)], args := [d] }
  | _ => none }
def FnHouApartWrongFalsely : Prop := fnHouApartRow.holds Tryz.pinned (OpenSpec.ofChange fnHouApartWrong)

/-- 'laws.FnHouOrder': WHATEVER THE INPUT: true; the input reads as it did. -/
def fnHouOrderSpec : ChangeSpec := { name := "fnHouOrder", fn := fun _ => fun
  | [d1, d2] => { results := [.lit (.bool true)], args := [d1, d2] }
  | _ => none }
def fnHouOrderRow : OpenClaim := { program := "ytddpemilmeijfaagreat", sum := "8f184eb3ee399006330102aed65546b55a8dcb4b28814189dd54f8c7e2edaeee", func := "loop.example/cupel/laws.FnHouOrder", spec := "fnHouOrder", inPlace := ["internal/bytealg.IndexByteString", "internal/bytealg.IndexString"], unfollowed := true, recurses := true, named := ["internal/bytealg.MaxLen"], apart := false }
def FnHouOrderSaid : Prop := fnHouOrderRow.holds Tryz.pinned (OpenSpec.ofChange fnHouOrderSpec)

/-- ITS FALSE NEIGHBOUR: 'it returns false'. Refute it at one input. -/
def fnHouOrderWrong : ChangeSpec := { name := "fnHouOrder", fn := fun _ => fun
  | [d1, d2] => { results := [.lit (.bool false)], args := [d1, d2] }
  | _ => none }
def FnHouOrderWrongFalsely : Prop := fnHouOrderRow.holds Tryz.pinned (OpenSpec.ofChange fnHouOrderWrong)

/-- 'laws.FnBatGate': WHATEVER THE INPUT: true; the input reads as it did. -/
def fnBatGateSpec : ChangeSpec := { name := "fnBatGate", fn := fun _ => fun
  | [d] => { results := [.lit (.bool true)], args := [d] }
  | _ => none }
def fnBatGateRow : OpenClaim := { program := "ytddpemilmeijfaagreat", sum := "8f184eb3ee399006330102aed65546b55a8dcb4b28814189dd54f8c7e2edaeee", func := "loop.example/cupel/laws.FnBatGate", spec := "fnBatGate", unfollowed := true, recurses := true, apart := false }
def FnBatGateSaid : Prop := fnBatGateRow.holds Tryz.pinned (OpenSpec.ofChange fnBatGateSpec)

/-- ITS FALSE NEIGHBOUR: 'it returns false'. Refute it at one input. -/
def fnBatGateWrong : ChangeSpec := { name := "fnBatGate", fn := fun _ => fun
  | [d] => { results := [.lit (.bool false)], args := [d] }
  | _ => none }
def FnBatGateWrongFalsely : Prop := fnBatGateRow.holds Tryz.pinned (OpenSpec.ofChange fnBatGateWrong)

/-- 'laws.FnBatSign': WHATEVER THE INPUT: true; the input reads as it did. -/
def fnBatSignSpec : ChangeSpec := { name := "fnBatSign", fn := fun _ => fun
  | [d] => { results := [.lit (.bool true)], args := [d] }
  | _ => none }
def fnBatSignRow : OpenClaim := { program := "ytddpemilmeijfaagreat", sum := "8f184eb3ee399006330102aed65546b55a8dcb4b28814189dd54f8c7e2edaeee", func := "loop.example/cupel/laws.FnBatSign", spec := "fnBatSign", unfollowed := true, recurses := true, apart := false }
def FnBatSignSaid : Prop := fnBatSignRow.holds Tryz.pinned (OpenSpec.ofChange fnBatSignSpec)

/-- ITS FALSE NEIGHBOUR: 'it returns false'. Refute it at one input. -/
def fnBatSignWrong : ChangeSpec := { name := "fnBatSign", fn := fun _ => fun
  | [d] => { results := [.lit (.bool false)], args := [d] }
  | _ => none }
def FnBatSignWrongFalsely : Prop := fnBatSignRow.holds Tryz.pinned (OpenSpec.ofChange fnBatSignWrong)

/-- 'laws.FnBatDev': WHATEVER THE INPUT: true; the input reads as it did. -/
def fnBatDevSpec : ChangeSpec := { name := "fnBatDev", fn := fun _ => fun
  | [d] => { results := [.lit (.bool true)], args := [d] }
  | _ => none }
def fnBatDevRow : OpenClaim := { program := "ytddpemilmeijfaagreat", sum := "8f184eb3ee399006330102aed65546b55a8dcb4b28814189dd54f8c7e2edaeee", func := "loop.example/cupel/laws.FnBatDev", spec := "fnBatDev", unfollowed := true, recurses := true, apart := false }
def FnBatDevSaid : Prop := fnBatDevRow.holds Tryz.pinned (OpenSpec.ofChange fnBatDevSpec)

/-- ITS FALSE NEIGHBOUR: 'it returns false'. Refute it at one input. -/
def fnBatDevWrong : ChangeSpec := { name := "fnBatDev", fn := fun _ => fun
  | [d] => { results := [.lit (.bool false)], args := [d] }
  | _ => none }
def FnBatDevWrongFalsely : Prop := fnBatDevRow.holds Tryz.pinned (OpenSpec.ofChange fnBatDevWrong)

/-- 'laws.FnBatTest': WHATEVER THE INPUT: true; the input reads as it did. -/
def fnBatTestSpec : ChangeSpec := { name := "fnBatTest", fn := fun _ => fun
  | [d] => { results := [.lit (.bool true)], args := [d] }
  | _ => none }
def fnBatTestRow : OpenClaim := { program := "ytddpemilmeijfaagreat", sum := "8f184eb3ee399006330102aed65546b55a8dcb4b28814189dd54f8c7e2edaeee", func := "loop.example/cupel/laws.FnBatTest", spec := "fnBatTest", unfollowed := true, recurses := true, apart := false }
def FnBatTestSaid : Prop := fnBatTestRow.holds Tryz.pinned (OpenSpec.ofChange fnBatTestSpec)

/-- ITS FALSE NEIGHBOUR: 'it returns false'. Refute it at one input. -/
def fnBatTestWrong : ChangeSpec := { name := "fnBatTest", fn := fun _ => fun
  | [d] => { results := [.lit (.bool false)], args := [d] }
  | _ => none }
def FnBatTestWrongFalsely : Prop := fnBatTestRow.holds Tryz.pinned (OpenSpec.ofChange fnBatTestWrong)

/-- 'laws.FnBatShut': WHATEVER THE INPUT: true; the input reads as it did. -/
def fnBatShutSpec : ChangeSpec := { name := "fnBatShut", fn := fun _ => fun
  | [d] => { results := [.lit (.bool true)], args := [d] }
  | _ => none }
def fnBatShutRow : OpenClaim := { program := "ytddpemilmeijfaagreat", sum := "8f184eb3ee399006330102aed65546b55a8dcb4b28814189dd54f8c7e2edaeee", func := "loop.example/cupel/laws.FnBatShut", spec := "fnBatShut", unfollowed := true, recurses := true, apart := false }
def FnBatShutSaid : Prop := fnBatShutRow.holds Tryz.pinned (OpenSpec.ofChange fnBatShutSpec)

/-- ITS FALSE NEIGHBOUR: 'it returns false'. Refute it at one input. -/
def fnBatShutWrong : ChangeSpec := { name := "fnBatShut", fn := fun _ => fun
  | [d] => { results := [.lit (.bool false)], args := [d] }
  | _ => none }
def FnBatShutWrongFalsely : Prop := fnBatShutRow.holds Tryz.pinned (OpenSpec.ofChange fnBatShutWrong)

/-- 'laws.FnHouStates': WHATEVER THE INPUT: true; the input reads as it did. -/
def fnHouStatesSpec : ChangeSpec := { name := "fnHouStates", fn := fun _ => fun
  | [d1, d2] => { results := [.lit (.bool true)], args := [d1, d2] }
  | _ => none }
def fnHouStatesRow : OpenClaim := { program := "ytddpemilmeijfaagreat", sum := "8f184eb3ee399006330102aed65546b55a8dcb4b28814189dd54f8c7e2edaeee", func := "loop.example/cupel/laws.FnHouStates", spec := "fnHouStates", inPlace := ["internal/bytealg.IndexByteString", "internal/bytealg.IndexString"], unfollowed := true, recurses := true, named := ["internal/bytealg.MaxLen"], apart := false }
def FnHouStatesSaid : Prop := fnHouStatesRow.holds Tryz.pinned (OpenSpec.ofChange fnHouStatesSpec)

/-- ITS FALSE NEIGHBOUR: 'it returns false'. Refute it at one input. -/
def fnHouStatesWrong : ChangeSpec := { name := "fnHouStates", fn := fun _ => fun
  | [d1, d2] => { results := [.lit (.bool false)], args := [d1, d2] }
  | _ => none }
def FnHouStatesWrongFalsely : Prop := fnHouStatesRow.holds Tryz.pinned (OpenSpec.ofChange fnHouStatesWrong)

/-- 'laws.FnHouMay': WHATEVER THE INPUT: true; the input reads as it did. -/
def fnHouMaySpec : ChangeSpec := { name := "fnHouMay", fn := fun _ => fun
  | [d] => { results := [.lit (.bool true)], args := [d] }
  | _ => none }
def fnHouMayRow : OpenClaim := { program := "ytddpemilmeijfaagreat", sum := "8f184eb3ee399006330102aed65546b55a8dcb4b28814189dd54f8c7e2edaeee", func := "loop.example/cupel/laws.FnHouMay", spec := "fnHouMay", inPlace := ["internal/bytealg.IndexByteString", "internal/bytealg.IndexString"], unfollowed := true, recurses := true, named := ["internal/bytealg.MaxLen"], apart := false }
def FnHouMaySaid : Prop := fnHouMayRow.holds Tryz.pinned (OpenSpec.ofChange fnHouMaySpec)

/-- ITS FALSE NEIGHBOUR: 'it returns false'. Refute it at one input. -/
def fnHouMayWrong : ChangeSpec := { name := "fnHouMay", fn := fun _ => fun
  | [d] => { results := [.lit (.bool false)], args := [d] }
  | _ => none }
def FnHouMayWrongFalsely : Prop := fnHouMayRow.holds Tryz.pinned (OpenSpec.ofChange fnHouMayWrong)

/-- 'laws.FnHouRefused': WHATEVER THE INPUT: true; the input reads as it did. -/
def fnHouRefusedSpec : ChangeSpec := { name := "fnHouRefused", fn := fun _ => fun
  | [d] => { results := [.lit (.bool true)], args := [d] }
  | _ => none }
def fnHouRefusedRow : OpenClaim := { program := "ytddpemilmeijfaagreat", sum := "8f184eb3ee399006330102aed65546b55a8dcb4b28814189dd54f8c7e2edaeee", func := "loop.example/cupel/laws.FnHouRefused", spec := "fnHouRefused", inPlace := ["internal/bytealg.IndexByteString", "internal/bytealg.IndexString"], unfollowed := true, recurses := true, named := ["internal/bytealg.MaxLen"], apart := false }
def FnHouRefusedSaid : Prop := fnHouRefusedRow.holds Tryz.pinned (OpenSpec.ofChange fnHouRefusedSpec)

/-- ITS FALSE NEIGHBOUR: 'it returns false'. Refute it at one input. -/
def fnHouRefusedWrong : ChangeSpec := { name := "fnHouRefused", fn := fun _ => fun
  | [d] => { results := [.lit (.bool false)], args := [d] }
  | _ => none }
def FnHouRefusedWrongFalsely : Prop := fnHouRefusedRow.holds Tryz.pinned (OpenSpec.ofChange fnHouRefusedWrong)

/-- 'laws.FnHouSpec': WHATEVER THE INPUT: true; the input reads as it did. -/
def fnHouSpecSpec : ChangeSpec := { name := "fnHouSpec", fn := fun _ => fun
  | [d] => { results := [.lit (.bool true)], args := [d] }
  | _ => none }
def fnHouSpecRow : OpenClaim := { program := "ytddpemilmeijfaagreat", sum := "8f184eb3ee399006330102aed65546b55a8dcb4b28814189dd54f8c7e2edaeee", func := "loop.example/cupel/laws.FnHouSpec", spec := "fnHouSpec", inPlace := ["internal/bytealg.IndexByteString", "internal/bytealg.IndexString"], unfollowed := true, recurses := true, named := ["internal/bytealg.MaxLen"], apart := false }
def FnHouSpecSaid : Prop := fnHouSpecRow.holds Tryz.pinned (OpenSpec.ofChange fnHouSpecSpec)

/-- ITS FALSE NEIGHBOUR: 'it returns false'. Refute it at one input. -/
def fnHouSpecWrong : ChangeSpec := { name := "fnHouSpec", fn := fun _ => fun
  | [d] => { results := [.lit (.bool false)], args := [d] }
  | _ => none }
def FnHouSpecWrongFalsely : Prop := fnHouSpecRow.holds Tryz.pinned (OpenSpec.ofChange fnHouSpecWrong)

/-- 'laws.FnHouStays': WHATEVER THE INPUT: true; the input reads as it did. -/
def fnHouStaysSpec : ChangeSpec := { name := "fnHouStays", fn := fun _ => fun
  | [d] => { results := [.lit (.bool true)], args := [d] }
  | _ => none }
def fnHouStaysRow : OpenClaim := { program := "ytddpemilmeijfaagreat", sum := "8f184eb3ee399006330102aed65546b55a8dcb4b28814189dd54f8c7e2edaeee", func := "loop.example/cupel/laws.FnHouStays", spec := "fnHouStays", inPlace := ["internal/bytealg.IndexByteString", "internal/bytealg.IndexString"], unfollowed := true, recurses := true, named := ["internal/bytealg.MaxLen"], apart := false }
def FnHouStaysSaid : Prop := fnHouStaysRow.holds Tryz.pinned (OpenSpec.ofChange fnHouStaysSpec)

/-- ITS FALSE NEIGHBOUR: 'it returns false'. Refute it at one input. -/
def fnHouStaysWrong : ChangeSpec := { name := "fnHouStays", fn := fun _ => fun
  | [d] => { results := [.lit (.bool false)], args := [d] }
  | _ => none }
def FnHouStaysWrongFalsely : Prop := fnHouStaysRow.holds Tryz.pinned (OpenSpec.ofChange fnHouStaysWrong)

/- THE SECOND FORM. 'bulk': how many values and letters a reading holds, each counted each time it is reached (what is shared counts as often as it is met; a slice's spare places count too). A statement '..UptoSaid' is the law's where the arguments, and the package variables that the reading takes, are together of bulk at most 1048576: NARROWER than '..Said'. Prove '..Said' where nothing that the law and all that it calls make is longer than what came in: it says more and counts as full. Else prove '..UptoSaid'. A law counts once. -/
mutual
def uptoBulk {H : Type} : DataW H → Nat
  | .lit (.string bytes) => bytes.length + 1
  | .lit _ => 1
  | .nil => 1
  | .ptr d => uptoBulk d + 1
  | .slice elems spare => uptoBulkAll elems + uptoBulkAll spare + 1
  | .agg parts => uptoBulkAll parts + 1
  | .iface _ d => uptoBulk d + 1
  | .map entries => uptoBulkEntries entries + 1
  | .held _ => 1
def uptoBulkAll {H : Type} : List (DataW H) → Nat
  | [] => 0
  | d :: r => uptoBulk d + uptoBulkAll r
def uptoBulkEntries {H : Type} : List (Lit × DataW H) → Nat
  | [] => 0
  | x :: r => uptoBulkEntry x + uptoBulkEntries r
def uptoBulkEntry {H : Type} : Lit × DataW H → Nat
  | (.string bytes, d) => bytes.length + uptoBulk d + 1
  | (_, d) => uptoBulk d + 1
 end
def uptoSmall : (H : Type) → List (DataW H) → Bool := fun _ ds => decide (uptoBulkAll ds ≤ 1048576)
def OpenSpec.upto (s : _root_.Go.ChangeSpec) : _root_.Go.OpenSpec := { _root_.Go.OpenSpec.ofChange s with cond := some uptoSmall }

/-- 'laws.FnHouApart', WHERE WHAT IT READS IS OF BULK AT MOST 1048576: true; the input reads as it did. -/
def fnHouApartUptoRow : OpenClaim := { program := "ytddpemilmeijfaagreat", sum := "8f184eb3ee399006330102aed65546b55a8dcb4b28814189dd54f8c7e2edaeee", func := "loop.example/cupel/laws.FnHouApart", spec := "fnHouApart", inPlace := ["internal/bytealg.IndexByteString", "internal/bytealg.IndexString"], unfollowed := true, recurses := true, named := ["internal/bytealg.MaxLen"], apart := false, narrowed := true }
def FnHouApartUptoSaid : Prop := fnHouApartUptoRow.holds Tryz.pinned (OpenSpec.upto fnHouApartSpec)

/-- 'laws.FnHouOrder', WHERE WHAT IT READS IS OF BULK AT MOST 1048576: true; the input reads as it did. -/
def fnHouOrderUptoRow : OpenClaim := { program := "ytddpemilmeijfaagreat", sum := "8f184eb3ee399006330102aed65546b55a8dcb4b28814189dd54f8c7e2edaeee", func := "loop.example/cupel/laws.FnHouOrder", spec := "fnHouOrder", inPlace := ["internal/bytealg.IndexByteString", "internal/bytealg.IndexString"], unfollowed := true, recurses := true, named := ["internal/bytealg.MaxLen"], apart := false, narrowed := true }
def FnHouOrderUptoSaid : Prop := fnHouOrderUptoRow.holds Tryz.pinned (OpenSpec.upto fnHouOrderSpec)

/-- 'laws.FnBatGate', WHERE WHAT IT READS IS OF BULK AT MOST 1048576: true; the input reads as it did. -/
def fnBatGateUptoRow : OpenClaim := { program := "ytddpemilmeijfaagreat", sum := "8f184eb3ee399006330102aed65546b55a8dcb4b28814189dd54f8c7e2edaeee", func := "loop.example/cupel/laws.FnBatGate", spec := "fnBatGate", unfollowed := true, recurses := true, apart := false, narrowed := true }
def FnBatGateUptoSaid : Prop := fnBatGateUptoRow.holds Tryz.pinned (OpenSpec.upto fnBatGateSpec)

/-- 'laws.FnBatSign', WHERE WHAT IT READS IS OF BULK AT MOST 1048576: true; the input reads as it did. -/
def fnBatSignUptoRow : OpenClaim := { program := "ytddpemilmeijfaagreat", sum := "8f184eb3ee399006330102aed65546b55a8dcb4b28814189dd54f8c7e2edaeee", func := "loop.example/cupel/laws.FnBatSign", spec := "fnBatSign", unfollowed := true, recurses := true, apart := false, narrowed := true }
def FnBatSignUptoSaid : Prop := fnBatSignUptoRow.holds Tryz.pinned (OpenSpec.upto fnBatSignSpec)

/-- 'laws.FnBatDev', WHERE WHAT IT READS IS OF BULK AT MOST 1048576: true; the input reads as it did. -/
def fnBatDevUptoRow : OpenClaim := { program := "ytddpemilmeijfaagreat", sum := "8f184eb3ee399006330102aed65546b55a8dcb4b28814189dd54f8c7e2edaeee", func := "loop.example/cupel/laws.FnBatDev", spec := "fnBatDev", unfollowed := true, recurses := true, apart := false, narrowed := true }
def FnBatDevUptoSaid : Prop := fnBatDevUptoRow.holds Tryz.pinned (OpenSpec.upto fnBatDevSpec)

/-- 'laws.FnBatTest', WHERE WHAT IT READS IS OF BULK AT MOST 1048576: true; the input reads as it did. -/
def fnBatTestUptoRow : OpenClaim := { program := "ytddpemilmeijfaagreat", sum := "8f184eb3ee399006330102aed65546b55a8dcb4b28814189dd54f8c7e2edaeee", func := "loop.example/cupel/laws.FnBatTest", spec := "fnBatTest", unfollowed := true, recurses := true, apart := false, narrowed := true }
def FnBatTestUptoSaid : Prop := fnBatTestUptoRow.holds Tryz.pinned (OpenSpec.upto fnBatTestSpec)

/-- 'laws.FnBatShut', WHERE WHAT IT READS IS OF BULK AT MOST 1048576: true; the input reads as it did. -/
def fnBatShutUptoRow : OpenClaim := { program := "ytddpemilmeijfaagreat", sum := "8f184eb3ee399006330102aed65546b55a8dcb4b28814189dd54f8c7e2edaeee", func := "loop.example/cupel/laws.FnBatShut", spec := "fnBatShut", unfollowed := true, recurses := true, apart := false, narrowed := true }
def FnBatShutUptoSaid : Prop := fnBatShutUptoRow.holds Tryz.pinned (OpenSpec.upto fnBatShutSpec)

/-- 'laws.FnHouStates', WHERE WHAT IT READS IS OF BULK AT MOST 1048576: true; the input reads as it did. -/
def fnHouStatesUptoRow : OpenClaim := { program := "ytddpemilmeijfaagreat", sum := "8f184eb3ee399006330102aed65546b55a8dcb4b28814189dd54f8c7e2edaeee", func := "loop.example/cupel/laws.FnHouStates", spec := "fnHouStates", inPlace := ["internal/bytealg.IndexByteString", "internal/bytealg.IndexString"], unfollowed := true, recurses := true, named := ["internal/bytealg.MaxLen"], apart := false, narrowed := true }
def FnHouStatesUptoSaid : Prop := fnHouStatesUptoRow.holds Tryz.pinned (OpenSpec.upto fnHouStatesSpec)

/-- 'laws.FnHouMay', WHERE WHAT IT READS IS OF BULK AT MOST 1048576: true; the input reads as it did. -/
def fnHouMayUptoRow : OpenClaim := { program := "ytddpemilmeijfaagreat", sum := "8f184eb3ee399006330102aed65546b55a8dcb4b28814189dd54f8c7e2edaeee", func := "loop.example/cupel/laws.FnHouMay", spec := "fnHouMay", inPlace := ["internal/bytealg.IndexByteString", "internal/bytealg.IndexString"], unfollowed := true, recurses := true, named := ["internal/bytealg.MaxLen"], apart := false, narrowed := true }
def FnHouMayUptoSaid : Prop := fnHouMayUptoRow.holds Tryz.pinned (OpenSpec.upto fnHouMaySpec)

/-- 'laws.FnHouRefused', WHERE WHAT IT READS IS OF BULK AT MOST 1048576: true; the input reads as it did. -/
def fnHouRefusedUptoRow : OpenClaim := { program := "ytddpemilmeijfaagreat", sum := "8f184eb3ee399006330102aed65546b55a8dcb4b28814189dd54f8c7e2edaeee", func := "loop.example/cupel/laws.FnHouRefused", spec := "fnHouRefused", inPlace := ["internal/bytealg.IndexByteString", "internal/bytealg.IndexString"], unfollowed := true, recurses := true, named := ["internal/bytealg.MaxLen"], apart := false, narrowed := true }
def FnHouRefusedUptoSaid : Prop := fnHouRefusedUptoRow.holds Tryz.pinned (OpenSpec.upto fnHouRefusedSpec)

/-- 'laws.FnHouSpec', WHERE WHAT IT READS IS OF BULK AT MOST 1048576: true; the input reads as it did. -/
def fnHouSpecUptoRow : OpenClaim := { program := "ytddpemilmeijfaagreat", sum := "8f184eb3ee399006330102aed65546b55a8dcb4b28814189dd54f8c7e2edaeee", func := "loop.example/cupel/laws.FnHouSpec", spec := "fnHouSpec", inPlace := ["internal/bytealg.IndexByteString", "internal/bytealg.IndexString"], unfollowed := true, recurses := true, named := ["internal/bytealg.MaxLen"], apart := false, narrowed := true }
def FnHouSpecUptoSaid : Prop := fnHouSpecUptoRow.holds Tryz.pinned (OpenSpec.upto fnHouSpecSpec)

/-- 'laws.FnHouStays', WHERE WHAT IT READS IS OF BULK AT MOST 1048576: true; the input reads as it did. -/
def fnHouStaysUptoRow : OpenClaim := { program := "ytddpemilmeijfaagreat", sum := "8f184eb3ee399006330102aed65546b55a8dcb4b28814189dd54f8c7e2edaeee", func := "loop.example/cupel/laws.FnHouStays", spec := "fnHouStays", inPlace := ["internal/bytealg.IndexByteString", "internal/bytealg.IndexString"], unfollowed := true, recurses := true, named := ["internal/bytealg.MaxLen"], apart := false, narrowed := true }
def FnHouStaysUptoSaid : Prop := fnHouStaysUptoRow.holds Tryz.pinned (OpenSpec.upto fnHouStaysSpec)

end Rows
end Go.Proofs.YtddpemilmeijfaaGreat
