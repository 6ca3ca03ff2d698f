/- Certificates: what the evaluations come to. -/
import Derived.Test.YtkjimaolpijoiaaMo5
set_option linter.unusedVariables false
set_option linter.unusedSimpArgs false
namespace Go.Vm

/-- Each value has its places, and is within what is asked. -/
def valsOk : List MAsk → List MDec → Bool
  | t :: ts, v :: vs => (decide (v.2 = t.2.2.2) && spcIn t v) && valsOk ts vs
  | _, _ => true
def cerOk (c : MCer) : Bool := inq c.1 0 5 && (testsOk c.2.1 && (decide (c.2.2.1.length = c.2.1.length) && (valsOk c.2.1 c.2.2.1 && (inq c.2.2.2.1 1 5 && (inq c.2.2.2.2 1 5 && !decide (c.2.2.2.1 = c.2.2.2.2))))))
theorem vals_loop (ts : List MAsk) (vs : List MDec) (hl : vs.length = ts.length) (z : Bool) (F : Nat → Nat → Option (Bool × Unit)) (hend : ∀ k, F (k + 1) vs.length = some (z, ()))
    (hstep : ∀ k i t v r r', ts.drop i = t :: r → vs.drop i = v :: r' → i < vs.length → i < ts.length → F (k + 1) i = bif (decide (v.2 = t.2.2.2) && spcIn t v) then F k (i + 1) else some (false, ())) : F (vs.length + 1) 0 = some (valsOk ts vs && z, ()) := by
  have := list_loop (σ := Unit) vs (fun k i _ => F k i) (fun l i _ => (valsOk (ts.drop i) l && z, ())) (fun _ _ => True) (fun k s _ => by
    rw [hend]
    cases ts.drop vs.length <;> simp [valsOk]) (fun k i x r s hd hi _ => by
    have hd' := List.drop_eq_getElem_cons (show i < ts.length by omega)
    have h := hstep k i _ x _ r hd' hd hi (by omega)
    cases hp : (decide (x.2 = (ts[i]'(by omega)).2.2.2) && spcIn (ts[i]'(by omega)) x)
    · refine .inl ?_
      show F (k + 1) i = _
      rw [h, hp, hd']; simp only [valsOk, hp]; rfl
    · refine .inr ⟨(), trivial, by show F (k + 1) i = _; rw [h, hp]; rfl, ?_⟩
      rw [hd']; simp only [valsOk, hp, Bool.true_and]) vs.length 0 () (by omega) trivial
  simpa using this
theorem spcIn_dec {t : MAsk} {v : MDec} (h : spcIn t v = true) : decOk v = true := by
  unfold spcIn at h; simp only [Bool.and_eq_true] at h; exact h.2.1
end Go.Vm
