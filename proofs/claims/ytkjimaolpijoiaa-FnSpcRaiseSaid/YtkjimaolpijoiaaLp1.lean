/- Loops over lists; small words. -/
import Derived.Test.YtkjimaolpijoiaaVm31
set_option linter.unusedVariables false
set_option linter.unusedSimpArgs false
namespace Go.Vm

theorem bif_some {α : Type} (c : Bool) (a b : α) : (bif c then some a else some b) = some (bif c then a else b) := by cases c <;> rfl
theorem bif_pair {α β : Type} (c : Bool) (a b : α) (z : β) : (bif c then (a, z) else (b, z)) = ((bif c then a else b), z) := by cases c <;> rfl
theorem bif_not (c : Bool) : (bif c then false else true) = !c := by cases c <;> rfl
theorem bif_and (a b : Bool) : (bif a then b else false) = (a && b) := by cases a <;> rfl
theorem bif_or (a b : Bool) : (bif a then true else b) = (a || b) := by cases a <;> rfl
theorem bif_neg {α : Type} (c : Bool) (a b : α) : (bif !c then a else b) = (bif c then b else a) := by cases c <;> rfl
theorem bif_and2 {α : Type} (a b : Bool) (x y : α) : (bif a then (bif b then x else y) else y) = (bif a && b then x else y) := by cases a <;> cases b <;> rfl
theorem bif_or2 {α : Type} (a b : Bool) (x y : α) : (bif a then x else (bif b then x else y)) = (bif a || b then x else y) := by cases a <;> cases b <;> rfl
theorem bif_eq {α : Type} (c : Bool) (x : α) : (bif c then x else x) = x := by cases c <;> rfl

/-- A place within. -/
theorem in_true {i n : Nat} (h : i < n) : (bif decide ((0 : Int) ≤ (i : Int)) then decide ((i : Int) < (n : Int)) else false) = true := by
  rw [show decide ((0 : Int) ≤ (i : Int)) = true from decide_eq_true (by omega)]
  exact decide_eq_true (by omega)
theorem lt_true {i n : Nat} (h : i < n) : decide ((i : Int) < (n : Int)) = true := decide_eq_true (by omega)
theorem lt_false {i n : Nat} (h : n ≤ i) : decide ((i : Int) < (n : Int)) = false := decide_eq_false (by omega)
theorem w_succ {i : Nat} (h : i ≤ 4294967296) : w64 ((i : Int) + (1 : Int)) = ((i + 1 : Nat) : Int) := by
  rw [w64_eq (by omega) (by omega)]; omega

theorem rdL_drop {S : Sh} {xs r : List S.den} {x : S.den} {i : Nat} (h : xs.drop i = x :: r) : rdL (e := S) xs (i : Int) = x := by
  have h1 : xs[i]? = some x := by
    have := congrArg List.head? h
    rwa [List.head?_drop] at this
  unfold rdL
  rw [Int.toNat_natCast, List.getD_eq_getElem?_getD, h1]; rfl

theorem rdL_at {S : Sh} {xs : List S.den} {i : Nat} (h : i < xs.length) : rdL (e := S) xs (i : Int) = xs[i] := by
  unfold rdL
  rw [Int.toNat_natCast, List.getD_eq_getElem?_getD, List.getElem?_eq_getElem h]; rfl

theorem drop_lt {α : Type} {xs r : List α} {x : α} {i : Nat} (h : xs.drop i = x :: r) : i < xs.length := by
  rcases Nat.lt_or_ge i xs.length with h' | h'
  · exact h'
  · rw [List.drop_of_length_le h'] at h; cases h

theorem drop_next {α : Type} {xs r : List α} {x : α} {i : Nat} (h : xs.drop i = x :: r) : xs.drop (i + 1) = r := by
  have : xs.drop (i + 1) = (xs.drop i).drop 1 := by rw [List.drop_drop]
  rw [this, h]; rfl

/-- A loop over a list's places: 'G': what it comes to, of what is left. -/
theorem list_loop {α σ β : Type} (xs : List α) (F : Nat → Nat → σ → Option β) (G : List α → Nat → σ → β) (Inv : Nat → σ → Prop)
    (hend : ∀ k s, Inv xs.length s → F (k + 1) xs.length s = some (G [] xs.length s))
    (hstep : ∀ k i x r s, xs.drop i = x :: r → i < xs.length → Inv i s →
      F (k + 1) i s = some (G (x :: r) i s) ∨ ∃ s', Inv (i + 1) s' ∧ F (k + 1) i s = F k (i + 1) s' ∧ G (x :: r) i s = G r (i + 1) s') :
    ∀ (m i : Nat) (s : σ), i + m = xs.length → Inv i s → F (m + 1) i s = some (G (xs.drop i) i s)
  | 0, i, s, h, hi => by
    have : i = xs.length := by omega
    subst this
    rw [List.drop_length]; exact hend 0 s hi
  | m + 1, i, s, h, hi => by
    have hlt : i < xs.length := by omega
    have hd := List.drop_eq_getElem_cons hlt
    rcases hstep (m + 1) i _ _ s hd hlt hi with h1 | ⟨s', h1, h2, h3⟩
    · rw [h1, hd]
    · rw [h2, hd, h3]
      exact list_loop xs F G Inv hend hstep m (i + 1) s' (by omega) h1

/-- A loop that counts: 'G': what it comes to, from a place on. -/
theorem count_loop {σ β : Type} (n : Nat) (F : Nat → Nat → σ → Option β) (G : Nat → σ → β) (Inv : Nat → σ → Prop)
    (hend : ∀ k s, Inv n s → F (k + 1) n s = some (G n s))
    (hstep : ∀ k i s, i < n → Inv i s → F (k + 1) i s = some (G i s) ∨ ∃ s', Inv (i + 1) s' ∧ F (k + 1) i s = F k (i + 1) s' ∧ G i s = G (i + 1) s') :
    ∀ (m i : Nat) (s : σ), i + m = n → Inv i s → F (m + 1) i s = some (G i s)
  | 0, i, s, h, hi => by
    have : i = n := by omega
    subst this; exact hend 0 s hi
  | m + 1, i, s, h, hi => by
    rcases hstep (m + 1) i s (by omega) hi with h1 | ⟨s', h1, h2, h3⟩
    · exact h1
    · rw [h2, h3]; exact count_loop n F G Inv hend hstep m (i + 1) s' (by omega) h1
end Go.Vm
