/- What the program's functions are: specifications that are added, raised. -/
import Derived.Test.YtkjimaolpijoiaaMo8
set_option linter.unusedVariables false
set_option linter.unusedSimpArgs false
namespace Go.Vm
def spcAdd (l : List MSpc) (t : List MAsk) : List MSpc × Bool := bif spcsOk l && (testsOk t && !decide (l.length = 6)) then (l ++ [(t, 1)], true) else (l, false)
/-- What is in force is retired. -/
def retire (s : MSpc) : MSpc := bif decide (s.2 = 2) then (s.1, 3) else s
def spcRaise (l : List MSpc) (k : Int) : List MSpc × Bool := bif spcsOk l && (inq k 0 ((l.length : Int) - 1) && decide ((l.getD k.toNat ([], 0)).2 = 1)) then ((l.map retire).set k.toNat ((l.getD k.toNat ([], 0)).1, 2), true) else (l, false)
def spcNow (l : List MSpc) : Int := idxOf (fun s : MSpc => decide (s.2 = 2)) l 0
/-- A loop that sets each. -/
theorem set_loop {α β : Type} (xs : List α) (f : α → α) (Z : List α → Option β) (F : Nat → Nat → List α → Option β) (hend : ∀ k out, out.length = xs.length → F (k + 1) xs.length out = Z out)
    (hstep : ∀ k i x r out, out.drop i = x :: r → i < xs.length → out.length = xs.length → F (k + 1) i out = F k (i + 1) (out.set i (f x))) : F (xs.length + 1) 0 xs = Z (xs.map f) := by
  have go : ∀ (m i : Nat) (out : List α), i + m = xs.length → out = (xs.take i).map f ++ xs.drop i → F (m + 1) i out = Z (xs.map f) := by
    intro m
    induction m with
    | zero =>
      intro i out h ho
      have : i = xs.length := by omega
      subst this
      rw [List.take_length, List.drop_length, List.append_nil] at ho
      subst ho
      exact hend 0 _ (List.length_map _)
    | succ m ih =>
      intro i out h ho
      have hi : i < xs.length := by omega
      have hl : out.length = xs.length := by rw [ho, List.length_append, List.length_map, List.length_take, List.length_drop]; omega
      have hti : ((xs.take i).map f).length = i := by rw [List.length_map, List.length_take]; omega
      have hd : out.drop i = xs[i] :: xs.drop (i + 1) := by
        rw [ho, List.drop_append_of_le_length (by omega), List.drop_of_length_le (by omega), List.nil_append]
        exact List.drop_eq_getElem_cons hi
      rw [hstep (m + 1) i _ _ out hd hi hl]
      refine ih (i + 1) _ (by omega) ?_
      rw [ho, List.set_append_right _ _ (by omega), hti, Nat.sub_self, List.drop_eq_getElem_cons hi, List.set_cons_zero, List.take_succ_eq_append_getElem hi, List.map_append]
      simp
  exact go xs.length 0 xs (by omega) (by simp)

theorem retire_len (l : List MSpc) : (l.map retire).length = l.length := List.length_map _
theorem set_self {α : Type} {l : List α} {i : Nat} {x : α} (h : l[i]? = some x) : l.set i x = l := by
  apply List.ext_getElem?
  intro j
  rw [List.getElem?_set]
  split
  · rename_i e; subst e
    have : i < l.length := by
      rcases Nat.lt_or_ge i l.length with h' | h'
      · exact h'
      · rw [List.getElem?_eq_none h'] at h; cases h
    rw [if_pos this, h]
  · rfl

theorem retire_fst (s : MSpc) : (retire s).1 = s.1 := by unfold retire; cases decide (s.2 = 2) <;> rfl
theorem getD_retire (l : List MSpc) (k : Nat) : ((l.map retire).getD k ([], 0)).1 = (l.getD k ([], 0)).1 := by
  rw [List.getD_eq_getElem?_getD, List.getD_eq_getElem?_getD, List.getElem?_map]
  cases l[k]? with
  | none => rfl
  | some s => exact retire_fst s
/-- With one in force at most: to retire the first is to retire all. -/
theorem retire_none : ∀ (l : List MSpc), force l = 0 → l.map retire = l
  | [], _ => rfl
  | s :: r, h => by
    unfold force at h
    have := force_nonneg r
    have h2 : ¬ s.2 = 2 := by intro e; rw [if_pos e] at h; omega
    rw [if_neg h2, Int.zero_add] at h
    rw [List.map_cons, retire_none r h]
    unfold retire
    rw [decide_eq_false h2]; rfl
theorem idx_shift {α : Type} (p : α → Bool) : ∀ (l : List α) (k : Nat), idxOf p l (k + 1) = if idxOf p l k < 0 then -1 else idxOf p l k + 1
  | [], k => rfl
  | x :: r, k => by
    unfold idxOf
    cases p x
    · exact idx_shift p r (k + 1)
    · show ((k + 1 : Nat) : Int) = if (k : Int) < 0 then -1 else (k : Int) + 1
      rw [if_neg (by omega)]; omega
theorem retire_first : ∀ (l : List MSpc), force l ≤ 1 → l.map retire = if spcNow l < 0 then l else l.set (spcNow l).toNat ((l.getD (spcNow l).toNat ([], 0)).1, 3)
  | [], _ => rfl
  | s :: r, h => by
    unfold force at h
    by_cases h2 : s.2 = 2
    · rw [if_pos h2] at h
      have h0 : force r = 0 := by have := force_nonneg r; omega
      have e : spcNow (s :: r) = 0 := by unfold spcNow idxOf; rw [decide_eq_true h2]; rfl
      rw [e, List.map_cons, retire_none r h0]
      unfold retire
      rw [decide_eq_true h2]; rfl
    · rw [if_neg h2, Int.zero_add] at h
      have e : spcNow (s :: r) = if spcNow r < 0 then -1 else spcNow r + 1 := by
        unfold spcNow
        show (bif decide (s.2 = 2) then ((0 : Nat) : Int) else idxOf _ r (0 + 1)) = _
        rw [decide_eq_false h2]
        exact idx_shift _ r 0
      rw [List.map_cons, retire_first r h, e]
      have hr : retire s = s := by unfold retire; rw [decide_eq_false h2]; rfl
      rw [hr]
      by_cases hn : spcNow r < 0
      · rw [if_pos hn, if_pos hn, if_pos (by decide)]
      · rw [if_neg hn, if_neg hn, if_neg (by omega)]
        have : (spcNow r + 1).toNat = (spcNow r).toNat + 1 := by omega
        rw [this]; rfl
/-! ### Short lists of specifications -/
/-- At most so many, each short. -/
def SpI (i : Nat) (l : List MSpc) : Prop := l.length ≤ i ∧ ∀ s ∈ l, s.1.length ≤ 5
def SpQ (l : List MSpc) : Prop := SpI 4 l
theorem SpI.nil : SpI 0 [] := ⟨Nat.le_refl _, fun _ h => by cases h⟩
theorem SpI.mono {i : Nat} {l : List MSpc} (h : SpI i l) : SpI (i + 1) l := ⟨by have := h.1; omega, h.2⟩
theorem SpI.q {i : Nat} {l : List MSpc} (h : SpI i l) (hi : i ≤ 4) : SpQ l := ⟨by have := h.1; omega, h.2⟩
theorem SpI.sm {i : Nat} {l : List MSpc} (h : SpI i l) (hi : i ≤ 4294967296) : smS l = true := smS_iff.2 ⟨by have := h.1; omega, fun s hs => by have := h.2 s hs; omega⟩
theorem SpQ.sm {l : List MSpc} (h : SpQ l) : smS l = true := SpI.sm h (by decide)
theorem smA_of {l : List MAsk} (h : l.length ≤ 5) : smA l = true := decide_eq_true (by omega)
theorem SpI.set {i : Nat} {l : List MSpc} (h : SpI i l) (k : Nat) (s : MSpc) (hs : s.1.length ≤ 5) : SpI i (l.set k s) := ⟨by rw [List.length_set]; exact h.1, fun y hy => by
  rcases List.mem_or_eq_of_mem_set hy with h1 | rfl
  · exact h.2 y h1
  · exact hs⟩
theorem SpI.getD {i : Nat} {l : List MSpc} (h : SpI i l) (k : Nat) : (l.getD k ([], 0)).1.length ≤ 5 := by
  rw [List.getD_eq_getElem?_getD]
  cases hk : l[k]? with
  | none => exact Nat.zero_le _
  | some s => exact h.2 s (List.mem_of_getElem? hk)
theorem SpI.add {i : Nat} {l : List MSpc} {t : List MAsk} (h : SpI i l) (ht : t.length ≤ 5) : SpI (i + 1) (spcAdd l t).1 := by
  unfold spcAdd
  cases (spcsOk l && (testsOk t && !decide (l.length = 6)))
  · exact h.mono
  · refine ⟨by show (l ++ [_]).length ≤ i + 1; rw [List.length_append]; have := h.1; show l.length + 1 ≤ i + 1; omega, fun y hy => ?_⟩
    rcases List.mem_append.1 hy with h1 | h1
    · exact h.2 y h1
    · have : y = (t, 1) := by simpa using h1
      subst this; exact ht
theorem SpI.retire {i : Nat} {l : List MSpc} (h : SpI i l) : SpI i (l.map retire) := ⟨by rw [List.length_map]; exact h.1, fun y hy => by
  obtain ⟨s, hs, rfl⟩ := List.mem_map.1 hy
  rw [retire_fst]; exact h.2 s hs⟩
theorem SpI.raise {i : Nat} {l : List MSpc} (h : SpI i l) (k : Int) : SpI i (spcRaise l k).1 := by
  unfold spcRaise
  cases (spcsOk l && (inq k 0 ((l.length : Int) - 1) && decide ((l.getD k.toNat ([], 0)).2 = 1)))
  · exact h
  · exact h.retire.set _ _ (h.getD _)
end Go.Vm
