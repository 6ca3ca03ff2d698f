/- Tests: what the evaluations come to. -/
import Derived.Test.YtkjimaolpijoiaaMo4
set_option linter.unusedVariables false
set_option linter.unusedSimpArgs false
namespace Go.Vm

theorem idxOf_any {α : Type} (p : α → Bool) : ∀ (l : List α) (i : Nat), decide ((0 : Int) ≤ idxOf p l i) = l.any p
  | [], i => rfl
  | x :: r, i => by
    unfold idxOf
    cases hp : p x
    · simp only [cond_false, List.any_cons, hp, Bool.false_or]; exact idxOf_any p r (i + 1)
    · simp [hp]
theorem not_any_not {α : Type} (p : α → Bool) (l : List α) : (!(l.any fun x => !p x)) = l.all p := by
  induction l with
  | nil => rfl
  | cons x r ih => simp only [List.any_cons, List.all_cons, ← ih]; cases p x <;> simp

def need (c : Int) : Int := if c = 1 then 1 else if c = 2 then 2 else 0
theorem need_le (c : Int) : need c ≤ 2 := by unfold need; split <;> (try split) <;> omega
def sum3 : List MDec → Int
  | [] => 0
  | d :: r => (atR d 3).1 + sum3 r
theorem at3_bound {d : MDec} (h : decOk d = true) : -9999000 ≤ (atR d 3).1 ∧ (atR d 3).1 ≤ 9999000 := by
  obtain ⟨⟨h1, h2⟩, h3, h4⟩ := decOk_iff.1 h
  unfold atR
  rw [if_pos h2]
  show -9999000 ≤ d.1 * pw (3 - d.2) ∧ d.1 * pw (3 - d.2) ≤ 9999000
  have : d.2 = 0 ∨ d.2 = 1 ∨ d.2 = 2 ∨ d.2 = 3 := by omega
  have p0 : pw 0 = 1 := rfl
  have p1 : pw 1 = 10 := rfl
  have p2 : pw 2 = 100 := rfl
  have p3 : pw 3 = 1000 := rfl
  rcases this with e | e | e | e <;> rw [e] at h3 h4 ⊢ <;> simp only [p0, p1, p2, p3, show (3 - 0 : Int) = 3 by omega, show (3 - 1 : Int) = 2 by omega, show (3 - 2 : Int) = 1 by omega, show (3 - 3 : Int) = 0 by omega] at h3 h4 ⊢ <;> omega
theorem sum3_bound : ∀ {l : List MDec}, l.all decOk = true → -9999000 * (l.length : Int) ≤ sum3 l ∧ sum3 l ≤ 9999000 * (l.length : Int)
  | [], _ => by simp [sum3]
  | d :: r, h => by
    simp only [List.all_cons, Bool.and_eq_true] at h
    have h1 := at3_bound h.1
    have h2 := sum3_bound h.2
    simp only [sum3, List.length_cons]
    omega
def decMean (l : List MDec) (p : Int) : MDec := bif inq l.length 1 100 && (l.all decOk && inq p 0 3) then (near (sum3 l) ((l.length : Int) * pw (3 - p)), p) else (0, 0)
def tell (t : MTst) : MDec := if t.2.2.2.1 = 1 then decAt (t.2.2.2.2.getD 0 (0, 0)) t.1.2.2.2 else if t.2.2.2.1 = 2 then decMean (t.2.2.1 :: t.2.2.2.2) t.1.2.2.2 else decAt t.2.2.1 t.1.2.2.2
def passes (t : MTst) : Bool := t.2.2.2.2.all (spcIn t.1) && spcIn t.1 (tell t)
def stateOf (t : MTst) : Int := if t.2.2.2.1 = 0 then (if spcIn t.1 t.2.2.1 = true then 3 else 1) else if t.2.2.2.1 = 3 then 4 else if (t.2.2.2.2.length : Int) < need t.2.2.2.1 then 2 else if passes t = true then 3 else 4
def tstOkA (t : MTst) : Bool := askOk t.1 && (decOk t.2.2.1 && (t.2.2.2.2.all decOk && (inq t.2.2.2.1 0 3 && decide ((t.2.2.2.2.length : Int) ≤ need t.2.2.2.1))))
noncomputable def tstOkB (t : MTst) : Bool := bif decide (t.2.1 = 0) then (same t.2.2.1 (0, 0) && decide (t.2.2.2.1 = 0)) else (decide (t.2.1 = stateOf t) && (decide (t.2.2.2.1 = 0) || !spcIn t.1 t.2.2.1))
noncomputable def tstOk (t : MTst) : Bool := tstOkA t && tstOkB t
/-- What the telling needs. -/
def tsPre (t : MTst) : Bool := askOk t.1 && (decOk t.2.2.1 && (t.2.2.2.2.all decOk && decide (t.2.2.2.2.length ≤ 2)))
def tlPre (t : MTst) : Bool := tsPre t && (!decide (t.2.2.2.1 = 1) || !t.2.2.2.2.isEmpty)
theorem tsPre_iff {t : MTst} : tsPre t = true ↔ askOk t.1 = true ∧ decOk t.2.2.1 = true ∧ t.2.2.2.2.all decOk = true ∧ t.2.2.2.2.length ≤ 2 := by
  unfold tsPre; simp only [Bool.and_eq_true, decide_eq_true_eq]
theorem tsPre_of {t : MTst} (h : tstOkA t = true) : tsPre t = true := by
  unfold tstOkA at h
  simp only [Bool.and_eq_true, decide_eq_true_eq] at h
  have := need_le t.2.2.2.1
  exact tsPre_iff.2 ⟨h.1, h.2.1, h.2.2.1, by have := h.2.2.2.2; omega⟩

/-- The mean, as the two ways of telling it have it. -/
theorem near_scale {s b c : Int} (hb : 0 < b) (hc : 0 < c) : near (s * c) (b * c) = near s b := by
  have key : ∀ m : Int, (2 * (m * c) + b * c) / (2 * (b * c)) = (2 * m + b) / (2 * b) := fun m => by
    have e1 : 2 * (m * c) + b * c = (2 * m + b) * c := by rw [Int.add_mul, Int.mul_assoc]
    have e2 : 2 * (b * c) = (2 * b) * c := by rw [Int.mul_assoc]
    rw [e1, e2, Int.mul_ediv_mul_of_pos_left _ _ hc]
  unfold near
  by_cases h : s < 0
  · have : s * c < 0 := Int.mul_neg_of_neg_of_pos h hc
    rw [if_pos this, if_pos h, ← Int.neg_mul, key]
  · have : ¬ s * c < 0 := by have := Int.mul_nonneg (show 0 ≤ s by omega) (show 0 ≤ c by omega); omega
    rw [if_neg this, if_neg h, key]

theorem mean_near {l : List MDec} {p : Int} (h1 : inq l.length 1 100 = true) (h2 : inq p 0 3 = true) : near (sum3 l * pw p) ((l.length : Int) * pw 3) = near (sum3 l) ((l.length : Int) * pw (3 - p)) := by
  obtain ⟨h3, h4⟩ := inq_iff.1 h1
  obtain ⟨h5, h6⟩ := inq_iff.1 h2
  have e : pw 3 = pw (3 - p) * pw p := by
    have : p = 0 ∨ p = 1 ∨ p = 2 ∨ p = 3 := by omega
    rcases this with rfl | rfl | rfl | rfl <;> rfl
  rw [e, ← Int.mul_assoc]
  exact near_scale (Int.mul_pos (by omega) (pw_pos _)) (pw_pos _)

theorem sum_loop (xs : List MDec) (hx : xs.length ≤ 100) (z : Int → MDec) (F : Nat → Nat → Int → Option (MDec × Unit)) (hend : ∀ k c, -999900000 ≤ c → c ≤ 999900000 → F (k + 1) xs.length c = some (z c, ()))
    (hstep : ∀ (k i : Nat) (x : MDec) (r : List MDec) (c : Int), xs.drop i = x :: r → i < xs.length → -999900000 ≤ c → c ≤ 999900000 → F (k + 1) i c = bif decOk x then F k (i + 1) (c + (atR x 3).1) else some ((0, 0), ())) :
    F (xs.length + 1) 0 0 = some (bif xs.all decOk then z (sum3 xs) else (0, 0), ()) := by
  have := list_loop (σ := Int) xs F (fun l i c => (bif l.all decOk then z (c + sum3 l) else (0, 0), ())) (fun i c => -9999000 * (i : Int) ≤ c ∧ c ≤ 9999000 * (i : Int) ∧ i ≤ 100) (fun k c hc => by rw [hend k c (by omega) (by omega)]; simp [sum3]) (fun k i x r c hd hi hc => by
    have h := hstep k i x r c hd hi (by omega) (by omega)
    cases hp : decOk x
    · exact .inl (by rw [h, hp]; simp [hp])
    · refine .inr ⟨c + (atR x 3).1, ?_, by rw [h, hp]; rfl, ?_⟩
      · have := at3_bound hp; omega
      · simp only [List.all_cons, hp, Bool.true_and, sum3, Int.add_assoc]) xs.length 0 0 (by omega) ⟨by omega, by omega, by omega⟩
  simpa using this
end Go.Vm
