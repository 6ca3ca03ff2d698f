/- Words that the printed equations use. -/
import Derived.Test.YtkjimaolpijoiaaVm30
set_option linter.unusedVariables false
namespace Go.Vm

def keepOf : List (List Bool × Keep) → List Bool → Keep
  | [], _ => ⟨[], [], []⟩
  | x :: r, p => bif x.1 == p then x.2 else keepOf r p
def fzOf : List (Nat × List Nat) → Nat → List Nat
  | [], _ => []
  | x :: r, i => bif Nat.beq x.1 i then x.2 else fzOf r i
def w64 (x : Int) : Int := IntKind.wrap IntKind.i64 x
def subStr (s : ByteArray) (l h : Int) : ByteArray := ByteArray.extract s l.toNat h.toNat
/-- What is appended is not too long. -/
def fitL {α : Type} (a b : List α) : Bool := decide (a.length + b.length ≤ BIG)
def fitS (a b : ByteArray) : Bool := decide (a.size + b.size ≤ BIG)
theorem fitL_eq {α : Type} {a b : List α} (h : a.length + b.length ≤ 4294967296) : fitL a b = true := decide_eq_true h
theorem w64_eq {x : Int} (h1 : -9223372036854775808 ≤ x) (h2 : x ≤ 9223372036854775807) : w64 x = x := by unfold w64; rw [IntKind.wrap_i64]; omega
end Go.Vm
