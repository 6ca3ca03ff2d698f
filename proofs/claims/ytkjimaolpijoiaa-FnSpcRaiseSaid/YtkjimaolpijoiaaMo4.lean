/- Specifications: what the evaluations come to; sizes. -/
import Derived.Test.YtkjimaolpijoiaaMo3
set_option linter.unusedVariables false
set_option linter.unusedSimpArgs false
namespace Go.Vm

/-! ### Sizes -/
def szAsk (l : List MAsk) (left : Int) : Int := if left < (l.length : Int) then -1 else left - (l.length : Int)
def szGo {α : Type} (f : α → Int → Int) : List α → Int → Int
  | [], l => l
  | x :: r, l => if f x l < 0 then -1 else szGo f r (f x l)
def szList {α : Type} (f : α → Int → Int) (xs : List α) (left : Int) : Int := if left < (xs.length : Int) then -1 else szGo f xs (left - (xs.length : Int))
def szSpc (s : MSpc) (left : Int) : Int := szAsk s.1 left
/-- What is left is no more than there was. -/
def Dec1 {α : Type} (f : α → Int → Int) : Prop := ∀ x l, 0 ≤ l → f x l ≤ l

theorem szAsk_le (l : List MAsk) (left : Int) (h : 0 ≤ left) : szAsk l left ≤ left := by unfold szAsk; split <;> omega
theorem szAsk_small {l : List MAsk} {left : Int} (h : left ≤ 1048576) (h2 : 0 ≤ szAsk l left) : l.length ≤ 1048576 := by
  unfold szAsk at h2; split at h2
  · omega
  · omega
theorem szGo_le {α : Type} {f : α → Int → Int} (hf : Dec1 f) : ∀ {xs : List α} {l : Int}, 0 ≤ l → szGo f xs l ≤ l
  | [], l, h => Int.le_refl _
  | x :: r, l, h => by
    unfold szGo
    split
    · omega
    · exact Int.le_trans (szGo_le hf (by omega)) (hf x l h)
theorem szGo_all {α : Type} {f : α → Int → Int} (hf : Dec1 f) {P : α → Prop} (hP : ∀ x l, l ≤ 1048576 → 0 ≤ f x l → P x) : ∀ {xs : List α} {l : Int}, 0 ≤ l → l ≤ 1048576 → 0 ≤ szGo f xs l → ∀ x ∈ xs, P x
  | [], l, h, h1, h2, x, hx => by cases hx
  | y :: r, l, h, h1, h2, x, hx => by
    unfold szGo at h2
    split at h2
    · omega
    · rcases List.mem_cons.1 hx with rfl | hx
      · exact hP _ l h1 (by omega)
      · exact szGo_all hf hP (by omega) (Int.le_trans (hf y l h) h1) h2 x hx
theorem szList_le {α : Type} {f : α → Int → Int} (hf : Dec1 f) {xs : List α} {l : Int} (h : 0 ≤ l) : szList f xs l ≤ l := by
  unfold szList
  split
  · omega
  · exact Int.le_trans (szGo_le hf (by omega)) (by omega)
theorem szList_all {α : Type} {f : α → Int → Int} (hf : Dec1 f) {P : α → Prop} (hP : ∀ x l, l ≤ 1048576 → 0 ≤ f x l → P x) {xs : List α} {l : Int} (h1 : l ≤ 1048576) (h2 : 0 ≤ szList f xs l) : xs.length ≤ 1048576 ∧ ∀ x ∈ xs, P x := by
  unfold szList at h2
  split at h2
  · omega
  · exact ⟨by omega, szGo_all hf hP (by omega) (by omega) h2⟩

theorem sz_loop {α : Type} (xs : List α) (f : α → Int → Int) (hf : Dec1 f) (F : Nat → Nat → Int → Option (Int × Unit)) (hend : ∀ k l, F (k + 1) xs.length l = some (l, ()))
    (hstep : ∀ k i x r l, xs.drop i = x :: r → i < xs.length → 0 ≤ l → l ≤ 1048576 → F (k + 1) i l = bif decide (f x l < 0) then some (-1, ()) else F k (i + 1) (f x l)) (l : Int) (h0 : 0 ≤ l) (h1 : l ≤ 1048576) : F (xs.length + 1) 0 l = some (szGo f xs l, ()) := by
  have := list_loop (σ := Int) xs F (fun r i l => (szGo f r l, ())) (fun i l => 0 ≤ l ∧ l ≤ 1048576) (fun k s _ => hend k s) (fun k i x r s hd hi hs => by
    have h := hstep k i x r s hd hi hs.1 hs.2
    by_cases hp : f x s < 0
    · exact .inl (by rw [h, decide_eq_true hp]; simp [szGo, hp])
    · exact .inr ⟨f x s, ⟨by omega, Int.le_trans (hf x s hs.1) hs.2⟩, by rw [h, decide_eq_false hp]; rfl, by simp [szGo, hp]⟩) xs.length 0 l (by omega) ⟨h0, h1⟩
  simpa using this

theorem p_sz0 {n : Nat} {l : Int} {X : Option (Int × Unit)} {z : Int} (hn : n ≤ 9223372036854775807) (h0 : 0 ≤ l) (h1 : l ≤ 1048576) (hX : (n : Int) ≤ l → X = some (z, ())) :
    (bif (decide ((w64 (l - (n : Int))) < (0 : Int))) then (some ((-1 : Int), ())) else X) = some (if l < (n : Int) then -1 else z, ()) := by
  rw [w64_eq (by omega) (by omega)]
  by_cases h : l < n
  · rw [if_pos h, decide_eq_true (by omega)]; rfl
  · rw [if_neg h, decide_eq_false (by omega)]; exact hX (by omega)

/-! ### Specifications -/
def force : List MSpc → Int
  | [] => 0
  | s :: r => (if s.2 = 2 then 1 else 0) + force r
theorem force_nonneg : ∀ (l : List MSpc), 0 ≤ force l
  | [] => Int.le_refl _
  | s :: r => by unfold force; have := force_nonneg r; split <;> omega
def spcOk1 (s : MSpc) : Bool := testsOk s.1 && inq s.2 1 3
def spcsOk (l : List MSpc) : Bool := decide (l.length ≤ 6) && (l.all spcOk1 && decide (force l ≤ 1))
/-- How long lists may be. -/
def smA (l : List MAsk) : Bool := decide (l.length ≤ 4294967296)
def smS (l : List MSpc) : Bool := decide (l.length ≤ 4294967296) && l.all (fun s => smA s.1)
theorem smS_iff {l : List MSpc} : smS l = true ↔ l.length ≤ 4294967296 ∧ ∀ s ∈ l, s.1.length ≤ 4294967296 := by
  unfold smS smA; simp

theorem spcs_loop (xs : List MSpc) (hx : xs.length ≤ 4294967296) (z : Int → Bool) (F : Nat → Nat → Int → Option (Bool × Unit)) (hend : ∀ k c, F (k + 1) xs.length c = some (z c, ()))
    (hstep : ∀ (k i : Nat) (x : MSpc) (r : List MSpc) (c : Int), xs.drop i = x :: r → i < xs.length → 0 ≤ c → c ≤ (i : Int) → F (k + 1) i c = bif spcOk1 x then (bif decide (x.2 = (2 : Int)) then F k (i + 1) (c + 1) else F k (i + 1) c) else some (false, ())) :
    F (xs.length + 1) 0 0 = some (xs.all spcOk1 && z (force xs), ()) := by
  have := list_loop (σ := Int) xs F (fun l i c => (l.all spcOk1 && z (c + force l), ())) (fun i c => 0 ≤ c ∧ c ≤ (i : Int)) (fun k c _ => by rw [hend k]; simp [force]) (fun k i x r c hd hi hc => by
    have h := hstep k i x r c hd hi hc.1 hc.2
    cases hp : spcOk1 x
    · exact .inl (by rw [h, hp]; simp [hp])
    · refine .inr ?_
      by_cases h2 : x.2 = 2
      · refine ⟨c + 1, ⟨by omega, by omega⟩, by rw [h, hp, decide_eq_true h2]; rfl, ?_⟩
        simp only [List.all_cons, hp, Bool.true_and, force, if_pos h2, Int.add_assoc]
      · refine ⟨c, ⟨by omega, by omega⟩, by rw [h, hp, decide_eq_false h2]; rfl, ?_⟩
        simp only [List.all_cons, hp, Bool.true_and, force, if_neg h2, Int.zero_add]) xs.length 0 0 (by omega) ⟨by omega, by omega⟩
  simpa using this
theorem mem_drop {α : Type} {xs r : List α} {x : α} {i : Nat} (h : xs.drop i = x :: r) : x ∈ xs := List.mem_of_mem_drop (h ▸ List.mem_cons_self)
end Go.Vm
