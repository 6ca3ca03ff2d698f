/-
  No cell of these rows narrows 'for every input' (looked for: loops, veiled, ifaces, maps, wideKeys, modest, calm, conditions, laid).
  DERIVED. THE GIVEN ROWS OF THIS SEAT. 10 by the template 'for every input the law returns true; each argument reads behind the call as it read before'; 0 by the template 'total and deterministic' (their statements: YtjmohfahchamaaaTotals.lean).
  GIVEN WITH THE SEED: the statements are not yours to turn. If you find one false, say at which input.
  Laid BY PROGRAM, IN A SANDBOX (cutbox-rows.mjs): the forced cells as the released guide's own fill.sh prints them over the translation 7b0b9609b5afa580… (all of the seat's roots in one cut). By AI agents, Wed Nov 11 2026. No macro, syntax, notation, axiom, sorry.
-/
import Derived.Test.YtjmohfahchamaaaChecked
import GoSem.Claim
import GoSem.ClaimJoined
import GoSem.ClaimMapViews
import Derived.JoinedTies
import Derived.KernelRfl
namespace Go.Proofs.Ytjmohfahchamaaa
/- THE CELL 'sum', in the pinned program and in every row, IS THE sha256 OF THE DUMP (.gsa) THAT YtjmohfahchamaaaProg.lean LOADS. Nothing in Lean hashes anything: it is a label: what it is worth is what the hold of that sum in a sandbox is worth. -/
noncomputable def Try.pinned : Pinned := { name := "ytjmohfahchamaaa", sum := "7b0b9609b5afa5804fc6f2d78e2585d0e9161a9f263d2edf93a3ae7fdd34e570", checked := Try.checked }
namespace Rows
def none {H : Type} : Left H := { results := [], args := [] }

/-- 'laws.FnExactSpcAdd': WHATEVER THE INPUT: true; the input reads as it did. -/
def fnExactSpcAddSpec : ChangeSpec := { name := "fnExactSpcAdd", fn := fun _ => fun
  | [d1, d2] => { results := [.lit (.bool true)], args := [d1, d2] }
  | _ => none }
def fnExactSpcAddRow : OpenClaim := { program := "ytjmohfahchamaaa", sum := "7b0b9609b5afa5804fc6f2d78e2585d0e9161a9f263d2edf93a3ae7fdd34e570", func := "loop.example/cupel/laws.FnExactSpcAdd", spec := "fnExactSpcAdd", recurses := true, apart := false }
def FnExactSpcAddSaid : Prop := fnExactSpcAddRow.holds Try.pinned (OpenSpec.ofChange fnExactSpcAddSpec)

/-- ITS FALSE NEIGHBOUR: 'it returns false'. Refute it at one input. -/
def fnExactSpcAddWrong : ChangeSpec := { name := "fnExactSpcAdd", fn := fun _ => fun
  | [d1, d2] => { results := [.lit (.bool false)], args := [d1, d2] }
  | _ => none }
def FnExactSpcAddWrongFalsely : Prop := fnExactSpcAddRow.holds Try.pinned (OpenSpec.ofChange fnExactSpcAddWrong)

/-- 'laws.FnExactSpcRaise': WHATEVER THE INPUT: true; the input reads as it did. -/
def fnExactSpcRaiseSpec : ChangeSpec := { name := "fnExactSpcRaise", fn := fun _ => fun
  | [d1, d2] => { results := [.lit (.bool true)], args := [d1, d2] }
  | _ => none }
def fnExactSpcRaiseRow : OpenClaim := { program := "ytjmohfahchamaaa", sum := "7b0b9609b5afa5804fc6f2d78e2585d0e9161a9f263d2edf93a3ae7fdd34e570", func := "loop.example/cupel/laws.FnExactSpcRaise", spec := "fnExactSpcRaise", unfollowed := true, recurses := true, apart := false }
def FnExactSpcRaiseSaid : Prop := fnExactSpcRaiseRow.holds Try.pinned (OpenSpec.ofChange fnExactSpcRaiseSpec)

/-- ITS FALSE NEIGHBOUR: 'it returns false'. Refute it at one input. -/
def fnExactSpcRaiseWrong : ChangeSpec := { name := "fnExactSpcRaise", fn := fun _ => fun
  | [d1, d2] => { results := [.lit (.bool false)], args := [d1, d2] }
  | _ => none }
def FnExactSpcRaiseWrongFalsely : Prop := fnExactSpcRaiseRow.holds Try.pinned (OpenSpec.ofChange fnExactSpcRaiseWrong)

/-- 'laws.FnBatNew': WHATEVER THE INPUT: true; the input reads as it did. -/
def fnBatNewSpec : ChangeSpec := { name := "fnBatNew", fn := fun _ => fun
  | [d] => { results := [.lit (.bool true)], args := [d] }
  | _ => none }
def fnBatNewRow : OpenClaim := { program := "ytjmohfahchamaaa", sum := "7b0b9609b5afa5804fc6f2d78e2585d0e9161a9f263d2edf93a3ae7fdd34e570", func := "loop.example/cupel/laws.FnBatNew", spec := "fnBatNew", unfollowed := true, recurses := true, apart := false }
def FnBatNewSaid : Prop := fnBatNewRow.holds Try.pinned (OpenSpec.ofChange fnBatNewSpec)

/-- ITS FALSE NEIGHBOUR: 'it returns false'. Refute it at one input. -/
def fnBatNewWrong : ChangeSpec := { name := "fnBatNew", fn := fun _ => fun
  | [d] => { results := [.lit (.bool false)], args := [d] }
  | _ => none }
def FnBatNewWrongFalsely : Prop := fnBatNewRow.holds Try.pinned (OpenSpec.ofChange fnBatNewWrong)

/-- 'laws.FnTstPassed': WHATEVER THE INPUT: true; the input reads as it did. -/
def fnTstPassedSpec : ChangeSpec := { name := "fnTstPassed", fn := fun _ => fun
  | [d] => { results := [.lit (.bool true)], args := [d] }
  | _ => none }
def fnTstPassedRow : OpenClaim := { program := "ytjmohfahchamaaa", sum := "7b0b9609b5afa5804fc6f2d78e2585d0e9161a9f263d2edf93a3ae7fdd34e570", func := "loop.example/cupel/laws.FnTstPassed", spec := "fnTstPassed", unfollowed := true, recurses := true, apart := false }
def FnTstPassedSaid : Prop := fnTstPassedRow.holds Try.pinned (OpenSpec.ofChange fnTstPassedSpec)

/-- ITS FALSE NEIGHBOUR: 'it returns false'. Refute it at one input. -/
def fnTstPassedWrong : ChangeSpec := { name := "fnTstPassed", fn := fun _ => fun
  | [d] => { results := [.lit (.bool false)], args := [d] }
  | _ => none }
def FnTstPassedWrongFalsely : Prop := fnTstPassedRow.holds Try.pinned (OpenSpec.ofChange fnTstPassedWrong)

/-- 'laws.FnTstTell': WHATEVER THE INPUT: true; the input reads as it did. -/
def fnTstTellSpec : ChangeSpec := { name := "fnTstTell", fn := fun _ => fun
  | [d] => { results := [.lit (.bool true)], args := [d] }
  | _ => none }
def fnTstTellRow : OpenClaim := { program := "ytjmohfahchamaaa", sum := "7b0b9609b5afa5804fc6f2d78e2585d0e9161a9f263d2edf93a3ae7fdd34e570", func := "loop.example/cupel/laws.FnTstTell", spec := "fnTstTell", unfollowed := true, recurses := true, apart := false }
def FnTstTellSaid : Prop := fnTstTellRow.holds Try.pinned (OpenSpec.ofChange fnTstTellSpec)

/-- ITS FALSE NEIGHBOUR: 'it returns false'. Refute it at one input. -/
def fnTstTellWrong : ChangeSpec := { name := "fnTstTell", fn := fun _ => fun
  | [d] => { results := [.lit (.bool false)], args := [d] }
  | _ => none }
def FnTstTellWrongFalsely : Prop := fnTstTellRow.holds Try.pinned (OpenSpec.ofChange fnTstTellWrong)

/-- 'laws.FnExactReqOk': WHATEVER THE INPUT: true; the input reads as it did. -/
def fnExactReqOkSpec : ChangeSpec := { name := "fnExactReqOk", fn := fun _ => fun
  | [d] => { results := [.lit (.bool true)], args := [d] }
  | _ => none }
def fnExactReqOkRow : OpenClaim := { program := "ytjmohfahchamaaa", sum := "7b0b9609b5afa5804fc6f2d78e2585d0e9161a9f263d2edf93a3ae7fdd34e570", func := "loop.example/cupel/laws.FnExactReqOk", spec := "fnExactReqOk", inPlace := ["internal/bytealg.IndexByteString", "internal/bytealg.IndexString"], unfollowed := true, recurses := true, named := ["internal/bytealg.MaxLen"], apart := false }
def FnExactReqOkSaid : Prop := fnExactReqOkRow.holds Try.pinned (OpenSpec.ofChange fnExactReqOkSpec)

/-- ITS FALSE NEIGHBOUR: 'it returns false'. Refute it at one input. -/
def fnExactReqOkWrong : ChangeSpec := { name := "fnExactReqOk", fn := fun _ => fun
  | [d] => { results := [.lit (.bool false)], args := [d] }
  | _ => none }
def FnExactReqOkWrongFalsely : Prop := fnExactReqOkRow.holds Try.pinned (OpenSpec.ofChange fnExactReqOkWrong)

/-- 'laws.FnExactTstCause': WHATEVER THE INPUT: true; the input reads as it did. -/
def fnExactTstCauseSpec : ChangeSpec := { name := "fnExactTstCause", fn := fun _ => fun
  | [d1, d2] => { results := [.lit (.bool true)], args := [d1, d2] }
  | _ => none }
def fnExactTstCauseRow : OpenClaim := { program := "ytjmohfahchamaaa", sum := "7b0b9609b5afa5804fc6f2d78e2585d0e9161a9f263d2edf93a3ae7fdd34e570", func := "loop.example/cupel/laws.FnExactTstCause", spec := "fnExactTstCause", unfollowed := true, recurses := true, apart := false }
def FnExactTstCauseSaid : Prop := fnExactTstCauseRow.holds Try.pinned (OpenSpec.ofChange fnExactTstCauseSpec)

/-- ITS FALSE NEIGHBOUR: 'it returns false'. Refute it at one input. -/
def fnExactTstCauseWrong : ChangeSpec := { name := "fnExactTstCause", fn := fun _ => fun
  | [d1, d2] => { results := [.lit (.bool false)], args := [d1, d2] }
  | _ => none }
def FnExactTstCauseWrongFalsely : Prop := fnExactTstCauseRow.holds Try.pinned (OpenSpec.ofChange fnExactTstCauseWrong)

/-- 'laws.FnExactTstMore': WHATEVER THE INPUT: true; the input reads as it did. -/
def fnExactTstMoreSpec : ChangeSpec := { name := "fnExactTstMore", fn := fun _ => fun
  | [d1, d2] => { results := [.lit (.bool true)], args := [d1, d2] }
  | _ => none }
def fnExactTstMoreRow : OpenClaim := { program := "ytjmohfahchamaaa", sum := "7b0b9609b5afa5804fc6f2d78e2585d0e9161a9f263d2edf93a3ae7fdd34e570", func := "loop.example/cupel/laws.FnExactTstMore", spec := "fnExactTstMore", unfollowed := true, recurses := true, apart := false }
def FnExactTstMoreSaid : Prop := fnExactTstMoreRow.holds Try.pinned (OpenSpec.ofChange fnExactTstMoreSpec)

/-- ITS FALSE NEIGHBOUR: 'it returns false'. Refute it at one input. -/
def fnExactTstMoreWrong : ChangeSpec := { name := "fnExactTstMore", fn := fun _ => fun
  | [d1, d2] => { results := [.lit (.bool false)], args := [d1, d2] }
  | _ => none }
def FnExactTstMoreWrongFalsely : Prop := fnExactTstMoreRow.holds Try.pinned (OpenSpec.ofChange fnExactTstMoreWrong)

/-- 'laws.FnExactTstPut': WHATEVER THE INPUT: true; the input reads as it did. -/
def fnExactTstPutSpec : ChangeSpec := { name := "fnExactTstPut", fn := fun _ => fun
  | [d1, d2] => { results := [.lit (.bool true)], args := [d1, d2] }
  | _ => none }
def fnExactTstPutRow : OpenClaim := { program := "ytjmohfahchamaaa", sum := "7b0b9609b5afa5804fc6f2d78e2585d0e9161a9f263d2edf93a3ae7fdd34e570", func := "loop.example/cupel/laws.FnExactTstPut", spec := "fnExactTstPut", unfollowed := true, recurses := true, apart := false }
def FnExactTstPutSaid : Prop := fnExactTstPutRow.holds Try.pinned (OpenSpec.ofChange fnExactTstPutSpec)

/-- ITS FALSE NEIGHBOUR: 'it returns false'. Refute it at one input. -/
def fnExactTstPutWrong : ChangeSpec := { name := "fnExactTstPut", fn := fun _ => fun
  | [d1, d2] => { results := [.lit (.bool false)], args := [d1, d2] }
  | _ => none }
def FnExactTstPutWrongFalsely : Prop := fnExactTstPutRow.holds Try.pinned (OpenSpec.ofChange fnExactTstPutWrong)

/-- 'laws.FnTstOk': WHATEVER THE INPUT: true; the input reads as it did. -/
def fnTstOkSpec : ChangeSpec := { name := "fnTstOk", fn := fun _ => fun
  | [d] => { results := [.lit (.bool true)], args := [d] }
  | _ => none }
def fnTstOkRow : OpenClaim := { program := "ytjmohfahchamaaa", sum := "7b0b9609b5afa5804fc6f2d78e2585d0e9161a9f263d2edf93a3ae7fdd34e570", func := "loop.example/cupel/laws.FnTstOk", spec := "fnTstOk", unfollowed := true, recurses := true, apart := false }
def FnTstOkSaid : Prop := fnTstOkRow.holds Try.pinned (OpenSpec.ofChange fnTstOkSpec)

/-- ITS FALSE NEIGHBOUR: 'it returns false'. Refute it at one input. -/
def fnTstOkWrong : ChangeSpec := { name := "fnTstOk", fn := fun _ => fun
  | [d] => { results := [.lit (.bool false)], args := [d] }
  | _ => none }
def FnTstOkWrongFalsely : Prop := fnTstOkRow.holds Try.pinned (OpenSpec.ofChange fnTstOkWrong)

/- THE SECOND FORM. 'bulk': how many values and letters a reading holds, each counted each time it is reached (what is shared counts as often as it is met; a slice's spare places count too). A statement '..UptoSaid' is the law's where the arguments, and the package variables that the reading takes, are together of bulk at most 1048576: NARROWER than '..Said'. Prove '..Said' where nothing that the law and all that it calls make is longer than what came in: it says more and counts as full. Else prove '..UptoSaid'. A law counts once. -/
mutual
def uptoBulk {H : Type} : DataW H → Nat
  | .lit (.string bytes) => bytes.length + 1
  | .lit _ => 1
  | .nil => 1
  | .ptr d => uptoBulk d + 1
  | .slice elems spare => uptoBulkAll elems + uptoBulkAll spare + 1
  | .agg parts => uptoBulkAll parts + 1
  | .iface _ d => uptoBulk d + 1
  | .map entries => uptoBulkEntries entries + 1
  | .held _ => 1
def uptoBulkAll {H : Type} : List (DataW H) → Nat
  | [] => 0
  | d :: r => uptoBulk d + uptoBulkAll r
def uptoBulkEntries {H : Type} : List (Lit × DataW H) → Nat
  | [] => 0
  | x :: r => uptoBulkEntry x + uptoBulkEntries r
def uptoBulkEntry {H : Type} : Lit × DataW H → Nat
  | (.string bytes, d) => bytes.length + uptoBulk d + 1
  | (_, d) => uptoBulk d + 1
 end
def uptoSmall : (H : Type) → List (DataW H) → Bool := fun _ ds => decide (uptoBulkAll ds ≤ 1048576)
def OpenSpec.upto (s : _root_.Go.ChangeSpec) : _root_.Go.OpenSpec := { _root_.Go.OpenSpec.ofChange s with cond := some uptoSmall }

/-- 'laws.FnExactSpcAdd', WHERE WHAT IT READS IS OF BULK AT MOST 1048576: true; the input reads as it did. -/
def fnExactSpcAddUptoRow : OpenClaim := { program := "ytjmohfahchamaaa", sum := "7b0b9609b5afa5804fc6f2d78e2585d0e9161a9f263d2edf93a3ae7fdd34e570", func := "loop.example/cupel/laws.FnExactSpcAdd", spec := "fnExactSpcAdd", recurses := true, apart := false, narrowed := true }
def FnExactSpcAddUptoSaid : Prop := fnExactSpcAddUptoRow.holds Try.pinned (OpenSpec.upto fnExactSpcAddSpec)

/-- 'laws.FnExactSpcRaise', WHERE WHAT IT READS IS OF BULK AT MOST 1048576: true; the input reads as it did. -/
def fnExactSpcRaiseUptoRow : OpenClaim := { program := "ytjmohfahchamaaa", sum := "7b0b9609b5afa5804fc6f2d78e2585d0e9161a9f263d2edf93a3ae7fdd34e570", func := "loop.example/cupel/laws.FnExactSpcRaise", spec := "fnExactSpcRaise", unfollowed := true, recurses := true, apart := false, narrowed := true }
def FnExactSpcRaiseUptoSaid : Prop := fnExactSpcRaiseUptoRow.holds Try.pinned (OpenSpec.upto fnExactSpcRaiseSpec)

/-- 'laws.FnBatNew', WHERE WHAT IT READS IS OF BULK AT MOST 1048576: true; the input reads as it did. -/
def fnBatNewUptoRow : OpenClaim := { program := "ytjmohfahchamaaa", sum := "7b0b9609b5afa5804fc6f2d78e2585d0e9161a9f263d2edf93a3ae7fdd34e570", func := "loop.example/cupel/laws.FnBatNew", spec := "fnBatNew", unfollowed := true, recurses := true, apart := false, narrowed := true }
def FnBatNewUptoSaid : Prop := fnBatNewUptoRow.holds Try.pinned (OpenSpec.upto fnBatNewSpec)

/-- 'laws.FnTstPassed', WHERE WHAT IT READS IS OF BULK AT MOST 1048576: true; the input reads as it did. -/
def fnTstPassedUptoRow : OpenClaim := { program := "ytjmohfahchamaaa", sum := "7b0b9609b5afa5804fc6f2d78e2585d0e9161a9f263d2edf93a3ae7fdd34e570", func := "loop.example/cupel/laws.FnTstPassed", spec := "fnTstPassed", unfollowed := true, recurses := true, apart := false, narrowed := true }
def FnTstPassedUptoSaid : Prop := fnTstPassedUptoRow.holds Try.pinned (OpenSpec.upto fnTstPassedSpec)

/-- 'laws.FnTstTell', WHERE WHAT IT READS IS OF BULK AT MOST 1048576: true; the input reads as it did. -/
def fnTstTellUptoRow : OpenClaim := { program := "ytjmohfahchamaaa", sum := "7b0b9609b5afa5804fc6f2d78e2585d0e9161a9f263d2edf93a3ae7fdd34e570", func := "loop.example/cupel/laws.FnTstTell", spec := "fnTstTell", unfollowed := true, recurses := true, apart := false, narrowed := true }
def FnTstTellUptoSaid : Prop := fnTstTellUptoRow.holds Try.pinned (OpenSpec.upto fnTstTellSpec)

/-- 'laws.FnExactReqOk', WHERE WHAT IT READS IS OF BULK AT MOST 1048576: true; the input reads as it did. -/
def fnExactReqOkUptoRow : OpenClaim := { program := "ytjmohfahchamaaa", sum := "7b0b9609b5afa5804fc6f2d78e2585d0e9161a9f263d2edf93a3ae7fdd34e570", func := "loop.example/cupel/laws.FnExactReqOk", spec := "fnExactReqOk", inPlace := ["internal/bytealg.IndexByteString", "internal/bytealg.IndexString"], unfollowed := true, recurses := true, named := ["internal/bytealg.MaxLen"], apart := false, narrowed := true }
def FnExactReqOkUptoSaid : Prop := fnExactReqOkUptoRow.holds Try.pinned (OpenSpec.upto fnExactReqOkSpec)

/-- 'laws.FnExactTstCause', WHERE WHAT IT READS IS OF BULK AT MOST 1048576: true; the input reads as it did. -/
def fnExactTstCauseUptoRow : OpenClaim := { program := "ytjmohfahchamaaa", sum := "7b0b9609b5afa5804fc6f2d78e2585d0e9161a9f263d2edf93a3ae7fdd34e570", func := "loop.example/cupel/laws.FnExactTstCause", spec := "fnExactTstCause", unfollowed := true, recurses := true, apart := false, narrowed := true }
def FnExactTstCauseUptoSaid : Prop := fnExactTstCauseUptoRow.holds Try.pinned (OpenSpec.upto fnExactTstCauseSpec)

/-- 'laws.FnExactTstMore', WHERE WHAT IT READS IS OF BULK AT MOST 1048576: true; the input reads as it did. -/
def fnExactTstMoreUptoRow : OpenClaim := { program := "ytjmohfahchamaaa", sum := "7b0b9609b5afa5804fc6f2d78e2585d0e9161a9f263d2edf93a3ae7fdd34e570", func := "loop.example/cupel/laws.FnExactTstMore", spec := "fnExactTstMore", unfollowed := true, recurses := true, apart := false, narrowed := true }
def FnExactTstMoreUptoSaid : Prop := fnExactTstMoreUptoRow.holds Try.pinned (OpenSpec.upto fnExactTstMoreSpec)

/-- 'laws.FnExactTstPut', WHERE WHAT IT READS IS OF BULK AT MOST 1048576: true; the input reads as it did. -/
def fnExactTstPutUptoRow : OpenClaim := { program := "ytjmohfahchamaaa", sum := "7b0b9609b5afa5804fc6f2d78e2585d0e9161a9f263d2edf93a3ae7fdd34e570", func := "loop.example/cupel/laws.FnExactTstPut", spec := "fnExactTstPut", unfollowed := true, recurses := true, apart := false, narrowed := true }
def FnExactTstPutUptoSaid : Prop := fnExactTstPutUptoRow.holds Try.pinned (OpenSpec.upto fnExactTstPutSpec)

/-- 'laws.FnTstOk', WHERE WHAT IT READS IS OF BULK AT MOST 1048576: true; the input reads as it did. -/
def fnTstOkUptoRow : OpenClaim := { program := "ytjmohfahchamaaa", sum := "7b0b9609b5afa5804fc6f2d78e2585d0e9161a9f263d2edf93a3ae7fdd34e570", func := "loop.example/cupel/laws.FnTstOk", spec := "fnTstOk", unfollowed := true, recurses := true, apart := false, narrowed := true }
def FnTstOkUptoSaid : Prop := fnTstOkUptoRow.holds Try.pinned (OpenSpec.upto fnTstOkSpec)

end Rows
end Go.Proofs.Ytjmohfahchamaaa
