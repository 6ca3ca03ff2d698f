/- What the program's functions are: specifications that are added, raised. -/
import Derived.Test.YtkjimaolpijoiaaMo8
set_option linter.unusedVariables false
set_option linter.unusedSimpArgs false
namespace Go.Vm
def spcAdd (l : List MSpc) (t : List MAsk) : List MSpc × Bool := bif spcsOk l && (testsOk t && !decide (l.length = 6)) then (l ++ [(t, 1)], true) else (l, false)
/-- What is in force is retired. -/
def retire (s : MSpc) : MSpc := bif decide (s.2 = 2) then (s.1, 3) else s
def spcRaise (l : List MSpc) (k : Int) : List MSpc × Bool := bif spcsOk l && (inq k 0 ((l.length : Int) - 1) && decide ((l.getD k.toNat ([], 0)).2 = 1)) then ((l.map retire).set k.toNat ((l.getD k.toNat ([], 0)).1, 2), true) else (l, false)
def spcNow (l : List MSpc) : Int := idxOf (fun s : MSpc => decide (s.2 = 2)) l 0
/-- A loop that sets each. -/
theorem set_loop {α β : Type} (xs : List α) (f : α → α) (Z : List α → Option β) (F : Nat → Nat → List α → Option β) (hend : ∀ k out, out.length = xs.length → F (k + 1) xs.length out = Z out)
    (hstep : ∀ k i x r out, out.drop i = x :: r → i < xs.length → out.length = xs.length → F (k + 1) i out = F k (i + 1) (out.set i (f x))) : F (xs.length + 1) 0 xs = Z (xs.map f) := by
  have go : ∀ (m i : Nat) (out : List α), i + m = xs.length → out = (xs.take i).map f ++ xs.drop i → F (m + 1) i out = Z (xs.map f) := by
    intro m
    induction m with
    | zero =>
      intro i out h ho
      have : i = xs.length := by omega
      subst this
      rw [List.take_length, List.drop_length, List.append_nil] at ho
      subst ho
      exact hend 0 _ (List.length_map _)
    | succ m ih =>
      intro i out h ho
      have hi : i < xs.length := by omega
      have hl : out.length = xs.length := by rw [ho, List.length_append, List.length_map, List.length_take, List.length_drop]; omega
      have hti : ((xs.take i).map f).length = i := by rw [List.length_map, List.length_take]; omega
      have hd : out.drop i = xs[i] :: xs.drop (i + 1) := by
        rw [ho, List.drop_append_of_le_length (by omega), List.drop_of_length_le (by omega), List.nil_append]
        exact List.drop_eq_getElem_cons hi
      rw [hstep (m + 1) i _ _ out hd hi hl]
      refine ih (i + 1) _ (by omega) ?_
      rw [ho, List.set_append_right _ _ (by omega), hti, Nat.sub_self, List.drop_eq_getElem_cons hi, List.set_cons_zero, List.take_succ_eq_append_getElem hi, List.map_append]
      simp
  exact go xs.length 0 xs (by omega) (by simp)

theorem retire_len (l : List MSpc) : (l.map retire).length = l.length := List.length_map _
theorem set_self {α : Type} {l : List α} {i : Nat} {x : α} (h : l[i]? = some x) : l.set i x = l := by
  apply List.ext_getElem?
  intro j
  rw [List.getElem?_set]
  split
  · rename_i e; subst e
    have : i < l.length := by
      rcases Nat.lt_or_ge i l.length with h' | h'
      · exact h'
      · rw [List.getElem?_eq_none h'] at h; cases h
    rw [if_pos this, h]
  · rfl

theorem retire_fst (s : MSpc) : (retire s).1 = s.1 := by unfold retire; cases decide (s.2 = 2) <;> rfl
theorem getD_retire (l : List MSpc) (k : Nat) : ((l.map retire).getD k ([], 0)).1 = (l.getD k ([], 0)).1 := by
  rw [List.getD_eq_getElem?_getD, List.getD_eq_getElem?_getD, List.getElem?_map]
  cases l[k]? with
  | none => rfl
  | some s => exact retire_fst s
/-- With one in force at most: to retire the first is to retire all. -/
theorem retire_none : ∀ (l : List MSpc), force l = 0 → l.map retire = l
  | [], _ => rfl
  | s :: r, h => by
    unfold force at h
    have := force_nonneg r
    have h2 : ¬ s.2 = 2 := by intro e; rw [if_pos e] at h; omega
    rw [if_neg h2, Int.zero_add] at h
    rw [List.map_cons, retire_none r h]
    unfold retire
    rw [decide_eq_false h2]; rfl
theorem idx_shift {α : Type} (p : α → Bool) : ∀ (l : List α) (k : Nat), idxOf p l (k + 1) = if idxOf p l k < 0 then -1 else idxOf p l k + 1
  | [], k => rfl
  | x :: r, k => by
    unfold idxOf
    cases p x
    · exact idx_shift p r (k + 1)
    · show ((k + 1 : Nat) : Int) = if (k : Int) < 0 then -1 else (k : Int) + 1
      rw [if_neg (by omega)]; omega
theorem retire_first : ∀ (l : List MSpc), force l ≤ 1 → l.map retire = if spcNow l < 0 then l else l.set (spcNow l).toNat ((l.getD (spcNow l).toNat ([], 0)).1, 3)
  | [], _ => rfl
  | s :: r, h => by
    unfold force at h
    by_cases h2 : s.2 = 2
    · rw [if_pos h2] at h
      have h0 : force r = 0 := by have := force_nonneg r; omega
      have e : spcNow (s :: r) = 0 := by unfold spcNow idxOf; rw [decide_eq_true h2]; rfl
      rw [e, List.map_cons, retire_none r h0]
      unfold retire
      rw [decide_eq_true h2]; rfl
    · rw [if_neg h2, Int.zero_add] at h
      have e : spcNow (s :: r) = if spcNow r < 0 then -1 else spcNow r + 1 := by
        unfold spcNow
        show (bif decide (s.2 = 2) then ((0 : Nat) : Int) else idxOf _ r (0 + 1)) = _
        rw [decide_eq_false h2]
        exact idx_shift _ r 0
      rw [List.map_cons, retire_first r h, e]
      have hr : retire s = s := by unfold retire; rw [decide_eq_false h2]; rfl
      rw [hr]
      by_cases hn : spcNow r < 0
      · rw [if_pos hn, if_pos hn, if_pos (by decide)]
      · rw [if_neg hn, if_neg hn, if_neg (by omega)]
        have : (spcNow r + 1).toNat = (spcNow r).toNat + 1 := by omega
        rw [this]; rfl
theorem idxOf_snoc {α : Type} {p : α → Bool} {x : α} (hp : p x = false) : ∀ (l : List α) (k : Nat), idxOf p (l ++ [x]) k = idxOf p l k
  | [], k => by
    show (bif p x then (k : Int) else -1) = -1
    rw [hp]; rfl
  | y :: r, k => by
    show (bif p y then (k : Int) else idxOf p (r ++ [x]) (k + 1)) = (bif p y then (k : Int) else idxOf p r (k + 1))
    rw [idxOf_snoc hp r (k + 1)]
theorem force_append : ∀ (l m : List MSpc), force (l ++ m) = force l + force m
  | [], m => by show force m = 0 + force m; omega
  | s :: r, m => by
    show (if s.2 = 2 then 1 else 0) + force (r ++ m) = ((if s.2 = 2 then 1 else 0) + force r) + force m
    rw [force_append r m]; omega
theorem spcsOk_iff {l : List MSpc} : spcsOk l = true ↔ l.length ≤ 6 ∧ (∀ s ∈ l, spcOk1 s = true) ∧ force l ≤ 1 := by
  unfold spcsOk; simp only [Bool.and_eq_true, decide_eq_true_eq, List.all_eq_true]
theorem spcsOk_add {l : List MSpc} {t : List MAsk} (hs : spcsOk l = true) (ht : testsOk t = true) (h : l.length ≤ 5) : spcsOk (l ++ [(t, 1)]) = true := by
  obtain ⟨h1, h2, h3⟩ := spcsOk_iff.1 hs
  refine spcsOk_iff.2 ⟨by rw [List.length_append]; show l.length + 1 ≤ 6; omega, fun s hm => ?_, ?_⟩
  · rcases List.mem_append.1 hm with h4 | h4
    · exact h2 s h4
    · have : s = (t, 1) := by simpa using h4
      subst this
      show (testsOk t && inq 1 1 3) = true
      rw [ht]; rfl
  · rw [force_append, show force [((t, 1) : MSpc)] = 0 from rfl]; omega
/-! ### What was raised -/
theorem retire_ne (s : MSpc) : ¬ (retire s).2 = 2 := by
  unfold retire
  cases h : decide (s.2 = 2)
  · exact of_decide_eq_false h
  · show ¬ (3 : Int) = 2
    decide
theorem force_retired : ∀ (l : List MSpc), force (l.map retire) = 0
  | [] => rfl
  | s :: r => by
    show (if (retire s).2 = 2 then 1 else 0) + force (r.map retire) = 0
    rw [if_neg (retire_ne s), force_retired r]; rfl
theorem now_retired : ∀ (l : List MSpc) (n k : Nat) (t : List MAsk), n < l.length → idxOf (fun s : MSpc => decide (s.2 = 2)) ((l.map retire).set n (t, 2)) k = ((k + n : Nat) : Int)
  | [], _, _, _, h => by cases h
  | s :: r, 0, k, t, _ => by
    show (bif decide ((2 : Int) = 2) then (k : Int) else _) = _
    rfl
  | s :: r, n + 1, k, t, h => by
    show (bif decide ((retire s).2 = 2) then (k : Int) else idxOf _ ((r.map retire).set n (t, 2)) (k + 1)) = _
    rw [decide_eq_false (retire_ne s), cond_false, now_retired r n (k + 1) t (by simpa using h)]
    congr 1; omega
theorem force_set : ∀ (m : List MSpc) (n : Nat) (t : List MAsk), force m = 0 → n < m.length → force (m.set n (t, 2)) = 1
  | [], _, _, _, h => by cases h
  | s :: r, 0, t, h, _ => by
    unfold force at h
    have := force_nonneg r
    show (if (2 : Int) = 2 then 1 else 0) + force r = 1
    rw [if_pos rfl]
    split at h <;> omega
  | s :: r, n + 1, t, h, hn => by
    unfold force at h
    have := force_nonneg r
    have h1 : force r = 0 := by split at h <;> omega
    show (if s.2 = 2 then 1 else 0) + force (r.set n (t, 2)) = 1
    rw [force_set r n t h1 (by simpa using hn)]
    split at h <;> omega
theorem retire_ok {s : MSpc} (h : spcOk1 s = true) : spcOk1 (retire s) = true := by
  unfold spcOk1 at h ⊢
  rw [retire_fst]
  unfold retire
  cases h2 : decide (s.2 = 2)
  · exact h
  · rw [Bool.and_eq_true] at h
    show (testsOk s.1 && inq 3 1 3) = true
    rw [h.1]; rfl
theorem raise_ok {l : List MSpc} {n : Int} (h : (spcsOk l && (inq n 0 ((l.length : Int) - 1) && decide ((l.getD n.toNat ([], 0)).2 = 1))) = true) :
    let x := (l.map retire).set n.toNat ((l.getD n.toNat ([], 0)).1, 2)
    0 ≤ n ∧ n < l.length ∧ (l.getD n.toNat ([], 0)).2 = 1 ∧ x.length = l.length ∧ spcsOk x = true ∧ spcNow x = n ∧ spcRaise x n = (x, false)
      ∧ (∀ i, (h : i < l.length) → ∃ s, x[i]? = some s ∧ s.1 = l[i].1 ∧ ((i : Int) ≠ n → s.2 ≠ l[i].2 → l[i].2 = 2 ∧ s.2 = 3)) := by
  intro x
  simp only [Bool.and_eq_true, decide_eq_true_eq] at h
  obtain ⟨h1, h2, h3⟩ := h
  obtain ⟨h4, h5⟩ := inq_iff.1 h2
  have hn : n.toNat < l.length := by omega
  have hx : x.length = l.length := by show (List.set _ _ _).length = _; rw [List.length_set, List.length_map]
  obtain ⟨g1, g2, g3⟩ := spcsOk_iff.1 h1
  have hg : (l.getD n.toNat ([], 0)) ∈ l := by
    rw [List.getD_eq_getElem?_getD, List.getElem?_eq_getElem hn]; exact List.getElem_mem hn
  have hxn : x.getD n.toNat ([], 0) = ((l.getD n.toNat ([], 0)).1, 2) := by
    show (List.set _ _ _).getD _ _ = _
    rw [List.getD_eq_getElem?_getD, List.getElem?_set_self (by rw [List.length_map]; exact hn)]; rfl
  refine ⟨h4, by omega, h3, hx, ?_, ?_, ?_, fun i hi => ?_⟩
  · refine spcsOk_iff.2 ⟨by rw [hx]; exact g1, fun s hs => ?_, by rw [force_set _ _ _ (force_retired l) (by rw [List.length_map]; exact hn)]; decide⟩
    rcases List.mem_or_eq_of_mem_set hs with h6 | rfl
    · obtain ⟨y, hy, rfl⟩ := List.mem_map.1 h6
      exact retire_ok (g2 y hy)
    · have h7 := g2 _ hg
      unfold spcOk1 at h7
      rw [Bool.and_eq_true] at h7
      show (testsOk (l.getD n.toNat ([], 0)).1 && inq 2 1 3) = true
      rw [h7.1]; rfl
  · show idxOf _ (List.set _ _ _) 0 = n
    rw [now_retired l n.toNat 0 _ hn]; omega
  · unfold spcRaise
    rw [hxn]
    show (bif _ && (_ && decide ((2 : Int) = 1)) then _ else _) = _
    rw [show decide ((2 : Int) = 1) = false from rfl, Bool.and_false, Bool.and_false]; rfl
  · by_cases he : i = n.toNat
    · subst he
      refine ⟨_, List.getElem?_set_self (by rw [List.length_map]; exact hn), ?_, fun h => absurd (by omega) h⟩
      show (l.getD n.toNat ([], 0)).1 = _
      rw [List.getD_eq_getElem?_getD, List.getElem?_eq_getElem hn]; rfl
    · refine ⟨retire l[i], by show (List.set _ _ _)[i]? = _; rw [List.getElem?_set_ne (by omega), List.getElem?_map, List.getElem?_eq_getElem hi]; rfl, retire_fst _, fun _ hne => ?_⟩
      unfold retire at hne ⊢
      cases h6 : decide (l[i].2 = 2)
      · rw [h6] at hne; exact absurd rfl hne
      · exact ⟨of_decide_eq_true h6, rfl⟩
/-! ### Short lists of specifications -/
/-- At most so many, each short. -/
def SpI (i : Nat) (l : List MSpc) : Prop := l.length ≤ i ∧ ∀ s ∈ l, s.1.length ≤ 5
def SpQ (l : List MSpc) : Prop := SpI 4 l
theorem SpI.nil : SpI 0 [] := ⟨Nat.le_refl _, fun _ h => by cases h⟩
theorem SpI.mono {i : Nat} {l : List MSpc} (h : SpI i l) : SpI (i + 1) l := ⟨by have := h.1; omega, h.2⟩
theorem SpI.q {i : Nat} {l : List MSpc} (h : SpI i l) (hi : i ≤ 4) : SpQ l := ⟨by have := h.1; omega, h.2⟩
theorem SpI.sm {i : Nat} {l : List MSpc} (h : SpI i l) (hi : i ≤ 4294967296) : smS l = true := smS_iff.2 ⟨by have := h.1; omega, fun s hs => by have := h.2 s hs; omega⟩
theorem SpQ.sm {l : List MSpc} (h : SpQ l) : smS l = true := SpI.sm h (by decide)
theorem smA_of {l : List MAsk} (h : l.length ≤ 5) : smA l = true := decide_eq_true (by omega)
theorem SpI.set {i : Nat} {l : List MSpc} (h : SpI i l) (k : Nat) (s : MSpc) (hs : s.1.length ≤ 5) : SpI i (l.set k s) := ⟨by rw [List.length_set]; exact h.1, fun y hy => by
  rcases List.mem_or_eq_of_mem_set hy with h1 | rfl
  · exact h.2 y h1
  · exact hs⟩
theorem SpI.getD {i : Nat} {l : List MSpc} (h : SpI i l) (k : Nat) : (l.getD k ([], 0)).1.length ≤ 5 := by
  rw [List.getD_eq_getElem?_getD]
  cases hk : l[k]? with
  | none => exact Nat.zero_le _
  | some s => exact h.2 s (List.mem_of_getElem? hk)
theorem SpI.add {i : Nat} {l : List MSpc} {t : List MAsk} (h : SpI i l) (ht : t.length ≤ 5) : SpI (i + 1) (spcAdd l t).1 := by
  unfold spcAdd
  cases (spcsOk l && (testsOk t && !decide (l.length = 6)))
  · exact h.mono
  · refine ⟨by show (l ++ [_]).length ≤ i + 1; rw [List.length_append]; have := h.1; show l.length + 1 ≤ i + 1; omega, fun y hy => ?_⟩
    rcases List.mem_append.1 hy with h1 | h1
    · exact h.2 y h1
    · have : y = (t, 1) := by simpa using h1
      subst this; exact ht
theorem SpI.retire {i : Nat} {l : List MSpc} (h : SpI i l) : SpI i (l.map retire) := ⟨by rw [List.length_map]; exact h.1, fun y hy => by
  obtain ⟨s, hs, rfl⟩ := List.mem_map.1 hy
  rw [retire_fst]; exact h.2 s hs⟩
theorem SpI.raise {i : Nat} {l : List MSpc} (h : SpI i l) (k : Int) : SpI i (spcRaise l k).1 := by
  unfold spcRaise
  cases (spcsOk l && (inq k 0 ((l.length : Int) - 1) && decide ((l.getD k.toNat ([], 0)).2 = 1)))
  · exact h
  · exact h.retire.set _ _ (h.getD _)
end Go.Vm
