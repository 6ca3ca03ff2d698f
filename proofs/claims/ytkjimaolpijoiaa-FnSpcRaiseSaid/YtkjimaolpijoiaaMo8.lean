/- Plain laws: decimals looked at with places; asks in order. -/
import Derived.Test.YtkjimaolpijoiaaMo7
set_option linter.unusedVariables false
set_option linter.unusedSimpArgs false
namespace Go.Vm

theorem places {p : Int} (h : 0 ≤ p ∧ p ≤ 3) : p = 0 ∨ p = 1 ∨ p = 2 ∨ p = 3 := by omega
theorem pw0 : pw 0 = 1 := rfl
theorem pw1 : pw 1 = 10 := rfl
theorem pw2 : pw 2 = 100 := rfl
theorem pw3 : pw 3 = 1000 := rfl

theorem atR_place (d : MDec) (p : Int) : (atR d p).2 = p := by unfold atR; split <;> rfl
theorem atR_self (d : MDec) : atR d d.2 = d := by
  unfold atR
  rw [if_pos (Int.le_refl _), Int.sub_self, pw0, Int.mul_one]
theorem atR_ok {d : MDec} {p : Int} (hd : decOk d = true) (hp : inq p 0 3 = true) : decOk (atR d p) = true := by
  obtain ⟨n, q⟩ := d
  obtain ⟨hq, h3, h4⟩ := decOk_iff.1 hd
  have hq : 0 ≤ q ∧ q ≤ 3 := hq
  have h3 : -9999 * pw q ≤ n := h3
  have h4 : n ≤ 9999 * pw q := h4
  refine decOk_iff.2 ⟨by rw [atR_place]; exact inq_iff.1 hp, ?_⟩
  rw [atR_place]
  rcases places hq with rfl | rfl | rfl | rfl <;> rcases places (inq_iff.1 hp) with rfl | rfl | rfl | rfl <;> simp only [pw0, pw1, pw2, pw3] at h3 h4 ⊢ <;> unfold atR near <;> simp [pw0, pw1, pw2, pw3] <;> (try split) <;> omega
/-- With more places it is the same number. -/
theorem atR_up {d : MDec} {p : Int} (hd : decOk d = true) (hp : inq p 0 3 = true) (h : d.2 ≤ p) : (atR (atR d p) 3).1 = (atR d 3).1 := by
  obtain ⟨n, q⟩ := d
  have hq : 0 ≤ q ∧ q ≤ 3 := (decOk_iff.1 hd).1
  have h : q ≤ p := h
  rcases places hq with rfl | rfl | rfl | rfl <;> rcases places (inq_iff.1 hp) with rfl | rfl | rfl | rfl <;> first | omega | (unfold atR; simp [pw0, pw1, pw2, pw3]; try omega)
theorem decCmp_up {a b : MDec} {p : Int} (ha : decOk a = true) (hp : inq p 0 3 = true) (h : a.2 ≤ p) : decCmp (atR a p) b = decCmp a b ∧ decCmp b (atR a p) = decCmp b a := by
  unfold decCmp
  rw [atR_ok ha hp, ha, atR_up ha hp h]
  exact ⟨rfl, rfl⟩
theorem decCmp_self (a : MDec) : decCmp a a = 0 := by
  unfold decCmp cmpI
  cases decOk a <;> simp

theorem testsOk_one (t : MAsk) : testsOk [t] = askOk t := by
  show (true && (askOk t && (true && true))) = _
  rw [Bool.true_and, Bool.true_and, Bool.and_true]
theorem askOk_iff {t : MAsk} : askOk t = true ↔ inq t.1 1 4 = true ∧ decOk t.2.1 = true ∧ decOk t.2.2.1 = true ∧ decCmp t.2.1 t.2.2.1 ≤ 0 ∧ inq t.2.2.2 0 3 = true := by
  unfold askOk; simp only [Bool.and_eq_true, decide_eq_true_eq]
theorem spcIn_bad {t : MAsk} {v : MDec} (h : askOk t = false ∨ decOk v = false) : spcIn t v = false := by
  unfold spcIn
  rcases h with h | h <;> rw [h] <;> simp
theorem decAt_ok {v : MDec} {p : Int} (hv : decOk v = true) (hp : inq p 0 3 = true) : decAt v p = atR v p := by unfold decAt; rw [hv, hp]; rfl
theorem spcIn_ok {t : MAsk} {v : MDec} (ht : askOk t = true) (hv : decOk v = true) : spcIn t v = (decide (decCmp t.2.1 (decAt v t.2.2.2) ≤ 0) && decide (decCmp (decAt v t.2.2.2) t.2.2.1 ≤ 0)) := by
  unfold spcIn
  rw [ht, hv, decAt_ok hv (askOk_iff.1 ht).2.2.2.2]; rfl
theorem spcIn_at {t : MAsk} {v : MDec} (ht : askOk t = true) (hv : decOk v = true) : spcIn t (decAt v t.2.2.2) = spcIn t v := by
  have hp := (askOk_iff.1 ht).2.2.2.2
  have hx : decOk (decAt v t.2.2.2) = true := by rw [decAt_ok hv hp]; exact atR_ok hv hp
  rw [spcIn_ok ht hx, spcIn_ok ht hv, decAt_ok hx hp]
  have : atR (decAt v t.2.2.2) t.2.2.2 = decAt v t.2.2.2 := by
    rw [decAt_ok hv hp]
    have := atR_self (atR v t.2.2.2)
    rwa [atR_place] at this
  rw [this]
theorem spcIn_low {t : MAsk} (ht : askOk t = true) (h : t.2.1.2 ≤ t.2.2.2) : spcIn t t.2.1 = true := by
  obtain ⟨_, h2, h3, h4, hp⟩ := askOk_iff.1 ht
  rw [spcIn_ok ht h2, decAt_ok h2 hp, (decCmp_up (b := t.2.1) h2 hp h).2, (decCmp_up (b := t.2.2.1) h2 hp h).1, decCmp_self, decide_eq_true h4]
  rfl

theorem gets_true {o : Option (Bool × Unit)} (h : Gets o (fun v => v = (true, ()))) : o = some (true, ()) := by obtain ⟨v, h, rfl⟩ := h; exact h
theorem tstOk_new (a : MAsk) : tstOk (a, 0, (0, 0), 0, []) = askOk a := by
  have h1 : tstOkA (a, 0, (0, 0), 0, []) = askOk a := by
    show (askOk a && true) = _
    rw [Bool.and_true]
  have h2 : tstOkB (a, 0, (0, 0), 0, []) = true := by
    show (same ((0, 0) : MDec) (0, 0) && true) = true
    rw [same_self]; rfl
  unfold tstOk
  rw [h1, h2, Bool.and_true]
/-! ### Asks in order -/
theorem asksOk_snoc (x : MAsk) : ∀ (l : List MAsk) (p : Option Int), asksOk p (l ++ [x]) = (asksOk p l && (askOk x && rises ((l.getLast?.map (·.1)).or p) x.1))
  | [], p => by
    show (askOk x && (rises p x.1 && true)) = _
    rw [Bool.and_true]; rfl
  | t :: r, p => by
    show (askOk t && (rises p t.1 && asksOk (some t.1) (r ++ [x]))) = _
    rw [asksOk_snoc x r (some t.1)]
    have : ((t :: r).getLast?.map (·.1)).or p = (r.getLast?.map (·.1)).or (some t.1) := by
      cases r with
      | nil => rfl
      | cons y r' => rw [List.getLast?_cons_cons, List.getLast?_cons]; rfl
    rw [this]
    show _ = ((askOk t && (rises p t.1 && asksOk (some t.1) r)) && _)
    simp only [Bool.and_assoc]
theorem asks_take0 {l : List MAsk} (h : 0 < l.length) : asksOk none (l.take 1) = askOk l[0] := by
  cases l with
  | nil => cases h
  | cons t r =>
    show (askOk t && true) = askOk t
    rw [Bool.and_true]
theorem asks_takeS {l : List MAsk} {j : Nat} (h : j + 1 < l.length) : asksOk none (l.take (j + 1 + 1)) = (asksOk none (l.take (j + 1)) && (askOk l[j + 1] && decide (l[j].1 < l[j + 1].1))) := by
  rw [List.take_succ_eq_append_getElem h, asksOk_snoc]
  have : (l.take (j + 1)).getLast? = some l[j] := by
    rw [List.take_succ_eq_append_getElem (show j < l.length by omega), List.getLast?_append]; rfl
  rw [this]; rfl
theorem one_of {α : Type} {l : List α} {i : Nat} (h : i < l.length) : dropI (takeI l ((i + 1 : Nat) : Int)) (i : Int) = [l[i]] := by
  show List.drop (Int.toNat (i : Int)) (List.take (Int.toNat ((i + 1 : Nat) : Int)) l) = _
  rw [Int.toNat_natCast, Int.toNat_natCast, List.take_succ_eq_append_getElem h, List.drop_append_of_le_length (by rw [List.length_take]; omega), List.drop_of_length_le (by rw [List.length_take]; omega)]
  rfl
theorem asks_after : ∀ (l : List MAsk) (n : Int), asksOk (some n) l = true → ∀ y ∈ l, n < y.1
  | [], _, _, _, h => by cases h
  | t :: r, n, h, y, hy => by
    unfold asksOk rises at h
    simp only [Bool.and_eq_true, decide_eq_true_eq] at h
    rcases List.mem_cons.1 hy with rfl | hy
    · exact h.2.1
    · exact Int.lt_trans h.2.1 (asks_after r t.1 h.2.2 y hy)
/-- Each is found by its number. -/
theorem asks_find : ∀ (l : List MAsk) (p : Option Int), asksOk p l = true → ∀ (i k : Nat) (x : MAsk) (r : List MAsk), l.drop i = x :: r → idxOf (fun t : MAsk => decide (t.1 = x.1)) l k = ((k + i : Nat) : Int)
  | [], _, _, i, _, _, _, hd => by rw [List.drop_nil] at hd; cases hd
  | t :: l, p, h, 0, k, x, r, hd => by
    have : t = x := by injection hd
    subst this
    unfold idxOf
    rw [decide_eq_true rfl]; rfl
  | t :: l, p, h, i + 1, k, x, r, hd => by
    have hd : l.drop i = x :: r := hd
    unfold asksOk at h
    simp only [Bool.and_eq_true] at h
    have hx : x ∈ l := by
      have : x ∈ l.drop i := by rw [hd]; exact List.mem_cons_self
      exact List.mem_of_mem_drop this
    have := asks_after l t.1 h.2.2 x hx
    unfold idxOf
    rw [decide_eq_false (by omega)]
    show idxOf _ l (k + 1) = _
    rw [asks_find l (some t.1) h.2.2 i (k + 1) x r hd]
    congr 1; omega
theorem idxOf_range' {α : Type} (p : α → Bool) : ∀ (l : List α) (k : Nat), idxOf p l k = -1 ∨ ((k : Int) ≤ idxOf p l k ∧ idxOf p l k < ((k + l.length : Nat) : Int))
  | [], k => .inl rfl
  | x :: r, k => by
    unfold idxOf
    cases p x
    · show idxOf p r (k + 1) = -1 ∨ ((k : Int) ≤ idxOf p r (k + 1) ∧ idxOf p r (k + 1) < _)
      rcases idxOf_range' p r (k + 1) with h | ⟨h1, h2⟩
      · exact .inl h
      · refine .inr ⟨by omega, ?_⟩
        rw [List.length_cons]; omega
    · show (k : Int) = -1 ∨ ((k : Int) ≤ (k : Int) ∧ (k : Int) < _)
      refine .inr ⟨Int.le_refl _, ?_⟩
      rw [List.length_cons]; omega
theorem idxOf_range {α : Type} (p : α → Bool) (l : List α) : idxOf p l 0 = -1 ∨ (0 ≤ idxOf p l 0 ∧ idxOf p l 0 < l.length) := by
  have := idxOf_range' p l 0
  simpa using this
end Go.Vm
