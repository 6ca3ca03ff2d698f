/- A call with what it needs: what it answers has a name. -/
import Derived.Test.YtkjimaolpijoiaaVm31
set_option linter.unusedVariables false
namespace Go.Vm
def cl {α β : Type} (b : Bool) (v : α) (k : α → Option β) : Option β := bif b then k v else none
/-- A word for a value. -/
def lt {α β : Type} (v : α) (k : α → β) : β := k v
theorem lt_eq {α β : Type} {v : α} {k : α → β} : lt v k = k v := rfl
theorem cl_eq {α β : Type} {b : Bool} {v : α} {k : α → Option β} (h : b = true) : cl b v k = k v := by unfold cl; rw [h]; rfl
/-- A walk comes to something that is as told. -/
def Gets {β : Type} (o : Option β) (P : β → Prop) : Prop := ∃ v, o = some v ∧ P v
theorem gets_cl {α β : Type} {b : Bool} {v : α} {k : α → Option β} {P : β → Prop} (h : b = true) (h2 : Gets (k v) P) : Gets (cl b v k) P := by rw [cl_eq h]; exact h2
theorem gets_lt {α β : Type} {v : α} {k : α → Option β} {P : β → Prop} (h : Gets (k v) P) : Gets (lt v k) P := h
theorem gets_need {β : Type} {c : Bool} {a : Option β} {P : β → Prop} (h : c = true) (h2 : Gets a P) : Gets (bif c then a else none) P := by rw [h]; exact h2
theorem gets_both {β : Type} {c : Bool} {a b : Option β} {P : β → Prop} (h : c = true → Gets a P) (h2 : c = false → Gets b P) : Gets (bif c then a else b) P := by
  cases hc : c
  · exact h2 hc
  · exact h hc
theorem gets_some {β : Type} {v : β} {P : β → Prop} (h : P v) : Gets (some v) P := ⟨v, rfl, h⟩
/-- A function that answers as told, of a walk that gets there. -/
theorem choose_fn {X Y : Type} (E : Nat → X → Option Y) (pre : X → Bool) (Post : X → Y → Prop) (d : Y)
    (h : ∀ x, pre x = true → ∃ k, Gets (E k x) (Post x)) : ∃ fn : X → Y, ∀ x, pre x = true → (∃ k, E k x = some (fn x)) ∧ Post x (fn x) := by
  refine ⟨fun x => (Classical.epsilon (h := ⟨d⟩) fun v => (∃ k, E k x = some v) ∧ Post x v), fun x hx => ?_⟩
  obtain ⟨k, v, h1, h2⟩ := h x hx
  have := Classical.epsilon_spec (p := fun v => (∃ k, E k x = some v) ∧ Post x v) ⟨v, ⟨k, h1⟩, h2⟩
  exact this
end Go.Vm
