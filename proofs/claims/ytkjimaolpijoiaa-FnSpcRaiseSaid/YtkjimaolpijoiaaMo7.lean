/- What is drawn: the reader. -/
import Derived.Test.YtkjimaolpijoiaaMo6
import Derived.Test.YtkjimaolpijoiaaVm32
set_option linter.unusedVariables false
set_option linter.unusedSimpArgs false
namespace Go.Vm
abbrev MRd : Type := List Int × Int
/-- A reader that may go on for so many steps. -/
def RdOk (c : Nat) (r : MRd) : Prop := (r.1.length ≤ 2000 ∧ ∀ b ∈ r.1, 0 ≤ b ∧ b ≤ 255) ∧ 0 ≤ r.2 ∧ r.2 + c ≤ 1000000
instance (c : Nat) (r : MRd) : Decidable (RdOk c r) := by unfold RdOk; infer_instance
def rdB (c : Nat) (r : MRd) : Bool := decide (RdOk c r)
theorem rdB_iff {c : Nat} {r : MRd} : rdB c r = true ↔ RdOk c r := ⟨of_decide_eq_true, decide_eq_true⟩
theorem RdOk.mono {c d : Nat} {r : MRd} (h : RdOk c r) (hd : d ≤ c) : RdOk d r := ⟨h.1, h.2.1, by have := h.2.2; omega⟩
theorem rdB_of {c d : Nat} {r : MRd} (h : RdOk c r) (hd : d ≤ c) : rdB d r = true := rdB_iff.2 (h.mono hd)

theorem rdL_byte {xs : List Int} (h : ∀ b ∈ xs, 0 ≤ b ∧ b ≤ 255) (i : Int) : 0 ≤ rdL (e := .int .u8) xs i ∧ rdL (e := .int .u8) xs i ≤ 255 := by
  unfold rdL
  rw [List.getD_eq_getElem?_getD]
  cases hx : xs[i.toNat]? with
  | none => exact ⟨Int.le_refl _, by decide⟩
  | some b => exact h b (List.mem_of_getElem? hx)

theorem xor_nonneg {x y : Int} (h1 : 0 ≤ x) (h2 : x < 4611686018427387904) (h3 : 0 ≤ y) (h4 : y < 4611686018427387904) : 0 ≤ bits .xor .i64 x y := by
  show 0 ≤ IntKind.wrap IntKind.i64 _
  have e1 : (BitVec.ofInt IntKind.i64.bits x).toNat = x.toNat := by
    rw [BitVec.toNat_ofInt, show ((2 ^ IntKind.i64.bits : Nat) : Int) = 18446744073709551616 from rfl, Int.emod_eq_of_lt h1 (by omega)]
  have e2 : (BitVec.ofInt IntKind.i64.bits y).toNat = y.toNat := by
    rw [BitVec.toNat_ofInt, show ((2 ^ IntKind.i64.bits : Nat) : Int) = 18446744073709551616 from rfl, Int.emod_eq_of_lt h3 (by omega)]
  rw [BitVec.toNat_xor, e1, e2]
  have h5 : x.toNat ^^^ y.toNat < 2 ^ 62 := Nat.xor_lt_two_pow (by omega) (by omega)
  have : w64 ((x.toNat ^^^ y.toNat : Nat) : Int) = ((x.toNat ^^^ y.toNat : Nat) : Int) := w64_eq (by omega) (by omega)
  unfold w64 at this
  rw [this]; omega

theorem pick_arith {p A B D : Int} (n : Int) (h0 : 0 ≤ p) (h1 : p ≤ 1000000) (ha : 0 ≤ A ∧ A ≤ 255) (hc : 0 ≤ B ∧ B ≤ 255) (hd : 0 ≤ D ∧ D ≤ p) :
    0 ≤ Int.tmod (bits .xor .i64 (w64 (w64 (w64 (w64 (w64 A * 131) + w64 (w64 B * 1117)) + w64 (p * 29)) + w64 (w64 D * 53))) (w64 (Int.tdiv (w64 (w64 (w64 (w64 (w64 A * 131) + w64 (w64 B * 1117)) + w64 (p * 29)) + w64 (w64 D * 53))) 64))) n := by
  refine Int.tmod_nonneg _ ?_
  rw [w64_eq (x := A) (by omega) (by omega), w64_eq (x := B) (by omega) (by omega), w64_eq (x := A * 131) (by omega) (by omega), w64_eq (x := B * 1117) (by omega) (by omega), w64_eq (x := D) (by omega) (by omega), w64_eq (x := D * 53) (by omega) (by omega), w64_eq (x := p * 29) (by omega) (by omega),
    w64_eq (x := A * 131 + B * 1117) (by omega) (by omega), w64_eq (x := A * 131 + B * 1117 + p * 29) (by omega) (by omega), w64_eq (x := A * 131 + B * 1117 + p * 29 + D * 53) (by omega) (by omega)]
  have hX : 0 ≤ A * 131 + B * 1117 + p * 29 + D * 53 ∧ A * 131 + B * 1117 + p * 29 + D * 53 ≤ 100000000 := by omega
  generalize A * 131 + B * 1117 + p * 29 + D * 53 = X at hX ⊢
  have hq : 0 ≤ Int.tdiv X 64 ∧ Int.tdiv X 64 ≤ X := ⟨Int.tdiv_nonneg hX.1 (by omega), by rw [Int.tdiv_eq_ediv_of_nonneg hX.1]; exact Int.ediv_le_self _ hX.1⟩
  rw [w64_eq (x := Int.tdiv X 64) (by omega) (by omega)]
  exact xor_nonneg hX.1 (by omega) hq.1 (by omega)
theorem byte_mod {A : Int} (n : Int) (ha : 0 ≤ A ∧ A ≤ 255) : 0 ≤ Int.tmod (w64 A) n := by
  rw [w64_eq (by omega) (by omega)]; exact Int.tmod_nonneg _ ha.1

/-- A place in a list that is told. -/
theorem need_ix {i : Int} {n m : Nat} (h1 : 0 ≤ i) (h2 : i < n) (h3 : n ≤ m) : (bif decide ((0 : Int) ≤ i) then decide (i < (m : Int)) else false) = true := by
  rw [decide_eq_true h1]; exact decide_eq_true (by omega)

/-- A reader went on, at most so many steps. -/
def Step (c : Nat) (r r' : MRd) : Prop := r'.1 = r.1 ∧ r.2 ≤ r'.2 ∧ r'.2 ≤ r.2 + c
theorem Step.refl (r : MRd) : Step 0 r r := ⟨rfl, Int.le_refl _, by omega⟩
theorem Step.mono {c d : Nat} {r s : MRd} (h : Step c r s) (hd : c ≤ d) : Step d r s := ⟨h.1, h.2.1, by have := h.2.2; omega⟩
theorem Step.trans {c d : Nat} {r s t : MRd} (h : Step c r s) (h2 : Step d s t) : Step (c + d) r t := ⟨h2.1.trans h.1, Int.le_trans h.2.1 h2.2.1, by have := h.2.2; have := h2.2.2; omega⟩
theorem Step.ok {N c d : Nat} {r s : MRd} (h : Step c r s) (h0 : RdOk N r) (hc : c + d ≤ N) : RdOk d s :=
  ⟨by rw [h.1]; exact h0.1, Int.le_trans h0.2.1 h.2.1, by have := h.2.2; have := h0.2.2; omega⟩

/-- What a number picked is. -/
def PickQ (a : Int × Unit) (i : Int) : Prop := 0 ≤ i ∧ (1 ≤ a.1 → i < a.1)
theorem pick_ix {i n : Int} {m : Nat} (h : PickQ (n, ()) i) (h1 : 1 ≤ n) (h3 : n ≤ (m : Int)) : (bif decide ((0 : Int) ≤ i) then decide (i < (m : Int)) else false) = true := by
  rw [decide_eq_true h.1]; exact decide_eq_true (Int.lt_of_lt_of_le (h.2 h1) h3)
theorem pick_le {i n m : Int} (h : PickQ (n, ()) i) (h1 : 1 ≤ n) (h3 : n ≤ m + 1) : decide (i ≤ m) = true := decide_eq_true (by have := h.2 h1; have : i < n := this; omega)

/-- A draw, in a walk. -/
theorem then_go {α β A : Type} {g : MRd × A → α × (MRd × Unit)} {cF : Nat} {Q : A → α → Prop} (q : ∀ r a, RdOk cF r → Step cF r (g (r, a)).2.1 ∧ Q a (g (r, a)).1) {N c : Nat} {r0 r : MRd} {a : A} {b : Bool} {F : α × (MRd × Unit) → Option β} {P : β → Prop}
    (h0 : RdOk N r0) (hb : b = rdB cF r) (hs : Step c r0 r) (hc : c + cF ≤ N) (k : ∀ y r', Q a y → Step (c + cF) r0 r' → Gets (F (y, (r', ()))) P) : Gets (cl b (g (r, a)) F) P := by
  have hr := hs.ok h0 hc
  refine gets_cl (hb.trans (rdB_iff.2 hr)) ?_
  obtain ⟨h1, h2⟩ := q r a hr
  exact k _ _ h2 (hs.trans h1)
theorem then_fst {α β A : Type} {g : A → α × Unit} {Q : α → Prop} {a : A} {b : Bool} {F : α × Unit → Option β} {P : β → Prop} (hb : b = true) (q : Q (g a).1) (k : ∀ y, Q y → Gets (F (y, ())) P) : Gets (cl b (g a) F) P := gets_cl hb (k _ q)

theorem gets_loop {σ β : Type} (F : Nat → Nat → σ → Option β) (P : β → Prop) (Inv : Nat → σ → Prop) (n : Nat) (hend : ∀ k s, Inv n s → Gets (F (k + 1) n s) P)
    (hstep : ∀ k i s, i < n → Inv i s → (∀ s', Inv (i + 1) s' → Gets (F k (i + 1) s') P) → Gets (F (k + 1) i s) P) : ∀ m i s, i + m = n → Inv i s → Gets (F (m + 1) i s) P
  | 0, i, s, h, hi => by
    have : i = n := by omega
    subst this; exact hend 0 s hi
  | m + 1, i, s, h, hi => hstep (m + 1) i s (by omega) hi fun s' hs' => gets_loop F P Inv n hend hstep m (i + 1) s' (by omega) hs'

/-- A code's bytes. -/
def bytesB (xs : List Int) : Bool := xs.all fun b => decide (0 ≤ b) && decide (b ≤ 255)
theorem bytesB_iff {xs : List Int} : bytesB xs = true ↔ ∀ b ∈ xs, 0 ≤ b ∧ b ≤ 255 := by
  unfold bytesB
  rw [List.all_eq_true]
  simp only [Bool.and_eq_true, decide_eq_true_eq]
theorem bytes_of {xs : List Int} (h : ∀ x ∈ xs, Wf (.int .u8) x) : bytesB xs = true := bytesB_iff.2 fun b hb => by
  have h1 : (Lit.int .u8 b).wf = true := h b hb
  simp [Lit.wf, IntKind.min, IntKind.max, IntKind.signed, IntKind.bits] at h1
  omega
theorem open_ok {xs : List Int} (h : bytesB xs = true) : RdOk 1000000 (takeI (α := Int) xs 2000, 0) := by
  refine ⟨⟨?_, fun b hb => bytesB_iff.1 h b (List.mem_of_mem_take hb)⟩, Int.le_refl _, by show (0 : Int) + ((1000000 : Nat) : Int) ≤ 1000000; decide⟩
  show (List.take (Int.toNat 2000) xs).length ≤ 2000
  rw [List.length_take]
  exact Nat.min_le_left _ _
theorem open_ok2 {xs : List Int} (h : bytesB xs = true) (hl : decide ((2000 : Int) < (xs.length : Int)) = false) : RdOk 1000000 (xs, 0) :=
  ⟨⟨by have := of_decide_eq_false hl; show xs.length ≤ 2000; omega, bytesB_iff.1 h⟩, Int.le_refl _, by show (0 : Int) + ((1000000 : Nat) : Int) ≤ 1000000; decide⟩
end Go.Vm
