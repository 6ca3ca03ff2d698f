/- Loops that compare, copy, look through; asks in lists. -/
import Derived.Test.YtkjimaolpijoiaaMo2
set_option linter.unusedVariables false
set_option linter.unusedSimpArgs false
namespace Go.Vm

/-- How long a list that came in may be. -/
def okLen (n : Nat) : Bool := decide (n ≤ 9223372036854775807)
theorem okLen_iff {n : Nat} : okLen n = true ↔ n ≤ 9223372036854775807 := by unfold okLen; simp

open Classical in
/-- Are they the same? -/
noncomputable def same {α : Type} (a b : α) : Bool := decide (a = b)
theorem same_iff {α : Type} {a b : α} : same a b = true ↔ a = b := by unfold same; simp
theorem same_self {α : Type} (a : α) : same a a = true := same_iff.2 rfl
theorem same_false {α : Type} {a b : α} (h : a ≠ b) : same a b = false := by unfold same; simp [h]
theorem same_int (a b : Int) : decide (a = b) = same a b := by unfold same; congr
theorem same_pair {α β : Type} (a a' : α) (b b' : β) : (same a a' && same b b') = same (a, b) (a', b') := by
  rw [Bool.eq_iff_iff, Bool.and_eq_true, same_iff, same_iff, same_iff, Prod.mk.injEq]

/-- A loop that compares. -/
theorem eq_loop {α : Type} (xs ys : List α) (hl : xs.length = ys.length) (F : Nat → Nat → Option (Bool × Unit)) (hend : ∀ k, F (k + 1) xs.length = some (true, ()))
    (hstep : ∀ k i x y r r', xs.drop i = x :: r → ys.drop i = y :: r' → i < xs.length → i < ys.length → F (k + 1) i = bif same x y then F k (i + 1) else some (false, ())) : F (xs.length + 1) 0 = some (same xs ys, ()) := by
  have := list_loop (σ := Unit) xs (fun k i _ => F k i) (fun l i _ => (same l (ys.drop i), ())) (fun _ _ => True) (fun k s _ => by
    rw [hend, hl, List.drop_length, same_self]) (fun k i x r s hd hi _ => by
    have hd' := List.drop_eq_getElem_cons (show i < ys.length by omega)
    have h := hstep k i x _ r _ hd hd' hi (by omega)
    by_cases hs : same x ys[i] = true
    · refine .inr ⟨(), trivial, by show F (k + 1) i = _; rw [h, hs]; rfl, ?_⟩
      rw [hd']
      have : same (x :: r) (ys[i] :: ys.drop (i + 1)) = same r (ys.drop (i + 1)) := by
        rw [Bool.eq_iff_iff, same_iff, same_iff, List.cons.injEq]
        exact ⟨fun h => h.2, fun h' => ⟨same_iff.1 hs, h'⟩⟩
      rw [this]
    · refine .inl ?_
      show F (k + 1) i = _
      rw [h, Bool.eq_false_iff.2 hs, hd']
      have : same (x :: r) (ys[i] :: ys.drop (i + 1)) = false := same_false fun e => hs (same_iff.2 (List.cons.inj e).1)
      rw [this]; rfl) xs.length 0 () (by omega) trivial
  simpa using this

/-- A loop that fills a row with what is made of each. -/
theorem map_loop {α β : Type} (xs : List α) (f : α → β) (F : Nat → Nat → List β → Option (List β × Unit)) (hend : ∀ k out, out.length = xs.length → F (k + 1) xs.length out = some (out, ()))
    (hstep : ∀ k i x r out, xs.drop i = x :: r → i < xs.length → out.length = xs.length → F (k + 1) i out = F k (i + 1) (out.set i (f x))) (out : List β) (ho : out.length = xs.length) : F (xs.length + 1) 0 out = some (xs.map f, ()) := by
  have := list_loop (σ := List β) xs F (fun l i out => (out.take i ++ l.map f, ())) (fun i out => out.length = xs.length) (fun k s hs => by
    rw [hend k s hs, ← hs]; simp) (fun k i x r s hd hi hs => by
    refine .inr ⟨s.set i (f x), by simpa using hs, hstep k i x r s hd hi hs, ?_⟩
    have e : (s.set i (f x)).take (i + 1) = s.take i ++ [f x] := by
      rw [List.take_add_one, List.getElem?_set_self (by omega), List.take_set_of_le (Nat.le_refl _)]
      rfl
    rw [e]; simp) xs.length 0 out (by omega) ho
  simpa using this

/-- A loop that puts what is made of each behind all. -/
theorem app_loop {α β : Type} (xs : List α) (f : α → β) (F : Nat → Nat → List β → Option (List β × Unit)) (hend : ∀ k out, F (k + 1) xs.length out = some (out, ()))
    (hstep : ∀ k i x r out, xs.drop i = x :: r → i < xs.length → out.length = i → F (k + 1) i out = F k (i + 1) (out ++ [f x])) : F (xs.length + 1) 0 [] = some (xs.map f, ()) := by
  have := list_loop (σ := List β) xs F (fun l i out => (out ++ l.map f, ())) (fun i out => out.length = i) (fun k s hs => by
    rw [hend k s]; simp) (fun k i x r s hd hi hs => .inr ⟨s ++ [f x], by simp [hs], hstep k i x r s hd hi hs, by simp⟩) xs.length 0 [] (by omega) rfl
  simpa using this

/-- A loop that finds the first one. -/
def idxOf {α : Type} (p : α → Bool) : List α → Nat → Int
  | [], _ => -1
  | x :: r, i => bif p x then (i : Int) else idxOf p r (i + 1)
theorem idx_loop {α : Type} (xs : List α) (p : α → Bool) (F : Nat → Nat → Option (Int × Unit)) (hend : ∀ k, F (k + 1) xs.length = some (-1, ()))
    (hstep : ∀ k i x r, xs.drop i = x :: r → i < xs.length → F (k + 1) i = bif p x then some ((i : Int), ()) else F k (i + 1)) : F (xs.length + 1) 0 = some (idxOf p xs 0, ()) := by
  have := list_loop (σ := Unit) xs (fun k i _ => F k i) (fun l i _ => (idxOf p l i, ())) (fun _ _ => True) (fun k s _ => hend k) (fun k i x r s hd hi _ => by
    have h := hstep k i x r hd hi
    cases hp : p x
    · exact .inr ⟨(), trivial, by show F (k + 1) i = _; rw [h, hp]; rfl, by simp [idxOf, hp]⟩
    · exact .inl (by show F (k + 1) i = _; rw [h, hp]; simp [idxOf, hp])) xs.length 0 () (by omega) trivial
  simpa using this

/-- A loop that says whether all are so. -/
theorem all_loop {α : Type} (xs : List α) (p : α → Bool) (z : Bool) (F : Nat → Nat → Option (Bool × Unit)) (hend : ∀ k, F (k + 1) xs.length = some (z, ()))
    (hstep : ∀ k i x r, xs.drop i = x :: r → i < xs.length → F (k + 1) i = bif p x then F k (i + 1) else some (false, ())) : F (xs.length + 1) 0 = some (xs.all p && z, ()) := by
  have := list_loop (σ := Unit) xs (fun k i _ => F k i) (fun l i _ => (l.all p && z, ())) (fun _ _ => True) (fun k s _ => by rw [hend k]; simp) (fun k i x r s hd hi _ => by
    have h := hstep k i x r hd hi
    cases hp : p x
    · exact .inl (by show F (k + 1) i = _; rw [h, hp]; simp [hp])
    · exact .inr ⟨(), trivial, by show F (k + 1) i = _; rw [h, hp]; rfl, by simp [hp]⟩) xs.length 0 () (by omega) trivial
  simpa using this

/-- The number of what comes ahead of a place. -/
def prev (xs : List MAsk) (i : Nat) : Option Int := if i = 0 then none else (xs[i - 1]?).map (·.1)
theorem prev_zero (xs : List MAsk) : prev xs 0 = none := rfl
theorem prev_succ {xs r : List MAsk} {x : MAsk} {i : Nat} (h : xs.drop i = x :: r) : prev xs (i + 1) = some x.1 := by
  have h1 : xs[i]? = some x := by
    have := congrArg List.head? h
    rwa [List.head?_drop] at this
  unfold prev
  rw [if_neg (by omega), Nat.add_sub_cancel, h1]; rfl

/-- The loop over asks: 'z': what comes behind it. -/
theorem asks_loop (xs : List MAsk) (hx : xs.length ≤ 4294967296) (z : Bool) (F : Nat → Nat → Option (Bool × Unit)) (hend : ∀ k, F (k + 1) xs.length = some (z, ()))
    (hstep : ∀ k i x r, xs.drop i = x :: r → i < xs.length → F (k + 1) i = bif (askOk x && rises (prev xs i) x.1) then F k (i + 1) else some (false, ())) :
    F (xs.length + 1) 0 = some (asksOk none xs && z, ()) := by
  have := list_loop (σ := Unit) xs (fun k i _ => F k i) (fun l i _ => (asksOk (prev xs i) l && z, ())) (fun _ _ => True) (fun k s _ => by rw [hend k]; simp [asksOk]) (fun k i x r s hd hi _ => by
    have h := hstep k i x r hd hi
    cases hp : (askOk x && rises (prev xs i) x.1)
    · refine .inl ?_
      show F (k + 1) i = _
      rw [h, hp]
      simp only [cond_false, asksOk, ← Bool.and_assoc]
      rw [hp]; rfl
    · refine .inr ⟨(), trivial, by show F (k + 1) i = _; rw [h, hp]; rfl, ?_⟩
      simp only [asksOk, prev_succ hd]
      rw [← Bool.and_assoc (askOk x), hp]; rfl) xs.length 0 () (by omega) trivial
  simpa [prev_zero] using this

/-- One round of it. -/
theorem asks_step {xs r : List MAsk} {x : MAsk} {i : Nat} (hx : xs.length ≤ 4294967296) (hd : xs.drop i = x :: r) (hi : i < xs.length) (Z : Option (Bool × Unit)) (rd : Int → MAsk) (hrd : ∀ j : Nat, j < xs.length → some (rd j) = xs[j]?) :
    (bif (bif askOk (rd (i : Int)) then false else true) then (some (false, ())) else (bif (decide ((0 : Int) < (i : Int))) then (bif (bif (decide ((0 : Int) ≤ (w64 ((i : Int) - (1 : Int))))) then (decide ((w64 ((i : Int) - (1 : Int))) < ((List.length xs : Int)))) else false) then (bif (decide ((rd (i : Int)).1 ≤ (rd (w64 ((i : Int) - (1 : Int)))).1)) then (some (false, ())) else Z) else none) else Z)) =
    bif (askOk x && rises (prev xs i) x.1) then Z else some (false, ()) := by
  have h1 : xs[i]? = some x := by
    have := congrArg List.head? hd
    rwa [List.head?_drop] at this
  have e1 : rd (i : Int) = x := by have := hrd i hi; rw [h1] at this; exact Option.some.inj this
  rw [e1]
  cases ha : askOk x
  · rfl
  · by_cases h0 : i = 0
    · subst h0; rw [prev_zero]; rfl
    · have e2 : w64 ((i : Int) - (1 : Int)) = ((i - 1 : Nat) : Int) := by rw [w64_eq (by omega) (by omega)]; omega
      rw [e2, in_true (show i - 1 < xs.length by omega), decide_eq_true (show (0 : Int) < (i : Int) by omega)]
      have e3 : prev xs i = some (rd ((i - 1 : Nat) : Int)).1 := by
        unfold prev
        rw [if_neg h0, ← hrd (i - 1) (by omega)]; rfl
      rw [e3]
      simp only [cond_true, cond_false, Bool.true_and, rises]
      by_cases hlt : (rd ((i - 1 : Nat) : Int)).1 < x.1
      · rw [decide_eq_true hlt, decide_eq_false (by omega)]; rfl
      · rw [decide_eq_false hlt, decide_eq_true (by omega)]; rfl

theorem rd_asks {S : Sh} {xs : List S.den} (j : Nat) (hj : j < xs.length) : some (rdL (e := S) xs (j : Int)) = xs[j]? := by
  rw [rdL_at hj, List.getElem?_eq_getElem hj]
end Go.Vm
