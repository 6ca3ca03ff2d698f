/- A law, called. -/
import Derived.Test.YtkjimaolpijoiaaVm29
set_option linter.unusedVariables false
set_option linter.unusedSimpArgs false
namespace Go.Vm
open Go.WideShapes Go.ChangeShapes Go.RowKit

def WfIns : (ms : List Mode) → (insSh ms).den → Prop
  | [], _ => True
  | m :: ms, x => Wf m.inSh x.1 ∧ WfIns ms x.2

open Classical in
/-- The inputs of a law. -/
noncomputable def lawPre (ms : List Mode) (x : (insSh ms).den) : Bool := decide (WfIns ms x)

theorem lawPre_iff {ms : List Mode} {x : (insSh ms).den} : lawPre ms x = true ↔ WfIns ms x := by simp [lawPre]

/-- A law's contract: it returns true. -/
noncomputable def lawCon (ms : List Mode) (z : (backSh ms).den) : Con := ⟨ms, [(.own, .bool)], lawPre ms, fun _ => (true, z)⟩

theorem argsR_nil {w : World} {st F : Blks} : ArgsR w st [] () [] F := rfl
theorem argsR_cons {w : World} {st : Blks} {S : Sh} {v : Value} {x : S.den} {ms : List Mode} {xs : (insSh ms).den} {vs : List Value} (h : ∃ cs, VR S v cs ∧ Im w st S x cs) (hs : ArgsR w st ms xs vs (fun _ => False)) :
    ArgsR w st (.imm S :: ms) (x, xs) (v :: vs) (fun _ => False) :=
  ⟨v, vs, fun _ => False, fun _ => False, rfl, fun _ h _ => h, fun _ h => h, fun _ h => h, h, hs⟩

theorem law_calls {P : Program} {f : FuncId} {ms : List Mode} {z : (backSh ms).den} (hS : Sound P f (lawCon ms z)) {W : World} {vals : List Value} {x : (insSh ms).den} (hx : WfIns ms x)
    (hargs : ArgsR W (fun b => b < W.heap.size) ms x vals (fun _ => False)) : Calls P f vals.toArray W fun e W' => e = .returned (.bool true) ∧ Below W.heap.size W W' := by
  refine (hS.2 W (fun b => b < W.heap.size) vals x (fun _ => False) (fun b hb => ⟨hb, fun h => h⟩) (fun _ h => h.elim) (lawPre_iff.2 hx) hargs).mono ?_
  rintro e W' ⟨us, st', G, rfl, hp⟩
  obtain ⟨u, r, F1, F2, cs, h1, _, _, _, h2, h3, h4, _⟩ := hp.res
  have h3 : cs = [.bool true] := h3
  have h4 : r = [] := h4
  subst h1 h3 h4
  refine ⟨?_, hp.os, hp.tape, hp.output, hp.size, fun k hk => hp.keep k hk (fun h => h)⟩
  rcases h2 with ⟨h, _⟩ | ⟨_, h⟩
  · cases h
  · simp only [List.cons.injEq, and_true] at h
    rw [← h]; rfl

end Go.Vm
