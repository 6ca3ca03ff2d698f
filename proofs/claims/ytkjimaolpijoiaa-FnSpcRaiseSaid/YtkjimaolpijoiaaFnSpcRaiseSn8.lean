/- The contracts: the reader, and what is drawn of decimals, asks, tests, specifications. -/
import Derived.Test.YtkjimaolpijoiaaFnSpcRaiseSn7
set_option linter.unusedVariables false
set_option linter.unusedSimpArgs false
namespace Go.Proofs.Ytkjimaolpijoiaa
open Go.Vm

theorem x_sl20Rd_pick : ∃ fn : In_sl20Rd_pick → Out_sl20Rd_pick, ∀ x, (fun x : In_sl20Rd_pick => rdB 1 x.1) x = true → (∃ k, E_sl20Rd_pick k x = some (fn x)) ∧ (fun (x : In_sl20Rd_pick) (v : Out_sl20Rd_pick) => Step 1 x.1 v.2.1 ∧ PickQ x.2 v.1) x (fn x) := by
  refine choose_fn (fun k x => E_sl20Rd_pick k x) (fun x : In_sl20Rd_pick => rdB 1 x.1) (fun (x : In_sl20Rd_pick) (v : Out_sl20Rd_pick) => Step 1 x.1 v.2.1 ∧ PickQ x.2 v.1) ((0 : Int), (([], 0), ())) fun x hx => ⟨0, ?_⟩
  have key : ∀ (b : List Int) (p n : Int), rdB 1 (b, p) = true → Gets (E_sl20Rd_pick 0 ((b, p), n, ())) (fun v => Step 1 (b, p) v.2.1 ∧ PickQ (n, ()) v.1) := by
    intro b p n hx
    obtain ⟨⟨hl, hb⟩, h0, h1⟩ := rdB_iff.1 hx
    have hl : b.length ≤ 2000 := hl
    have hb : ∀ y ∈ b, 0 ≤ y ∧ y ≤ 255 := hb
    have h0 : 0 ≤ p := h0
    have h1 : p + 1 ≤ 1000000 := h1
    rw [ev_sl20Rd_pick 0 (b, p) n]
    have e1 : w64 (p + 1) = p + 1 := w64_eq (by omega) (by omega)
    have e2 : w64 (p + 1 - 1) = p := by rw [w64_eq (by omega) (by omega)]; omega
    have e3 : w64 (p * 7) = p * 7 := w64_eq (by omega) (by omega)
    have e4 : w64 (p * 7 + 3) = p * 7 + 3 := w64_eq (by omega) (by omega)
    have hb' := rdL_byte hb
    simp only [e1, e2, e3, e4]
    have go : ∀ i : Int, 0 ≤ i → (1 ≤ n → i < n) → Step 1 (b, p) (b, p + 1) ∧ PickQ (n, ()) i := fun i hi hi2 =>
      ⟨⟨rfl, (by show p ≤ p + 1; omega), (by show p + 1 ≤ p + ((1 : Nat) : Int); omega)⟩, hi, hi2⟩
    refine gets_both (fun hc => gets_some (go _ (Int.le_refl _) fun h => Int.lt_of_lt_of_le Int.zero_lt_one h)) fun hc => gets_both (fun hc2 => gets_some (go _ (Int.le_refl _) fun h => Int.lt_of_lt_of_le Int.zero_lt_one h)) fun hc2 => ?_
    have hn : 1 ≤ n := Int.not_lt.1 (of_decide_eq_false hc)
    have hL : b.length ≠ 0 := by have := of_decide_eq_false hc2; omega
    have n0 : (bif decide (n = (0 : Int)) then false else true) = true := by rw [decide_eq_false (by omega)]; rfl
    refine gets_both (fun hc3 => ?_) fun hc3 => ?_
    · have hlt := of_decide_eq_true hc3
      refine gets_need (by rw [decide_eq_true h0]; exact hc3) (gets_need n0 (gets_some (go _ ?_ fun _ => ?_)))
      · exact byte_mod n (hb' p)
      · exact Int.tmod_lt_of_pos _ (by omega)
    · have hlen : ((b.length : Nat) : Int) ≠ 0 := by omega
      have hL0 : (bif decide ((b.length : Int) = (0 : Int)) then false else true) = true := by rw [decide_eq_false hlen]; rfl
      have tm : ∀ z : Int, 0 ≤ z → (bif decide ((0 : Int) ≤ Int.tmod z (b.length : Int)) then decide (Int.tmod z (b.length : Int) < (b.length : Int)) else false) = true := fun z hz => by
        rw [decide_eq_true (Int.tmod_nonneg _ hz)]; exact decide_eq_true (Int.tmod_lt_of_pos _ (by omega))
      refine gets_need hL0 (gets_need (tm p h0) (gets_need hL0 (gets_need (tm _ (by omega)) (gets_need hL0 (gets_need rfl (gets_need n0 (gets_some (go _ ?_ fun _ => Int.tmod_lt_of_pos _ (by omega)))))))))
      exact pick_arith n h0 (by omega) (hb' _) (hb' _) ⟨Int.tdiv_nonneg h0 (by omega), by rw [Int.tdiv_eq_ediv_of_nonneg h0]; exact Int.ediv_le_self _ h0⟩
  exact key x.1.1 x.1.2 x.2.1 hx
noncomputable def d_sl20Rd_pick := Classical.choose x_sl20Rd_pick
theorem q_sl20Rd_pick (r : MRd) (a : Int × Unit) (h : RdOk 1 r) : Step 1 r (d_sl20Rd_pick (r, a)).2.1 ∧ PickQ a (d_sl20Rd_pick (r, a)).1 := (Classical.choose_spec x_sl20Rd_pick (r, a) (rdB_iff.2 h)).2
theorem s_sl20Rd_pick : C_sl20Rd_pick (fun x => rdB 1 x.1) d_sl20Rd_pick := S_sl20Rd_pick fun x hx => (Classical.choose_spec x_sl20Rd_pick x hx).1

theorem x_sl20Dec : ∃ fn : In_sl20Dec → Out_sl20Dec, ∀ x, (fun x : In_sl20Dec => rdB 7 x.1) x = true → (∃ k, E_sl20Dec d_sl20Rd_pick (fun x => rdB 1 x.1) (fun x => (pw x.1, ())) (fun x => decide (x.1 ≤ 18)) k x = some (fn x)) ∧ (fun (x : In_sl20Dec) (v : Out_sl20Dec) => Step 7 x.1 v.2.1 ∧ True) x (fn x) := by
  refine choose_fn (fun k x => E_sl20Dec d_sl20Rd_pick (fun x => rdB 1 x.1) (fun x => (pw x.1, ())) (fun x => decide (x.1 ≤ 18)) k x) (fun x : In_sl20Dec => rdB 7 x.1) (fun (x : In_sl20Dec) (v : Out_sl20Dec) => Step 7 x.1 v.2.1 ∧ True) ((0, 0), (([], 0), ())) fun x hx => ?_
  have key : ∀ (r0 : MRd) (a1 : Int), RdOk 7 r0 → Gets (E_sl20Dec d_sl20Rd_pick (fun x => rdB 1 x.1) (fun x => (pw x.1, ())) (fun x => decide (x.1 ≤ 18)) 0 (r0, a1, ())) (fun v => Step 7 r0 v.2.1 ∧ True) := by
    intro r0 a1 h0
    have hs := Step.refl r0
    rw [ev_sl20Dec 0 r0 a1]
    repeat' first
      | refine then_go (Q := PickQ) q_sl20Rd_pick h0 rfl (by assumption) (by decide) fun y r' hq hs => ?_
      | refine gets_cl (pick_le (by assumption) (by decide) (by decide)) ?_
      | refine gets_need (pick_le (by assumption) (by decide) (by decide)) ?_
      | refine gets_need (pick_ix (by assumption) (by decide) (by exact Int.le_refl _)) ?_
      | exact gets_some ⟨Step.mono (by assumption) (by decide), trivial⟩
      | refine gets_both (fun hc => ?_) fun hc => ?_
  exact ⟨0, key x.1 x.2.1 (rdB_iff.1 hx)⟩
noncomputable def d_sl20Dec := Classical.choose x_sl20Dec
theorem c_sl20Dec (x : In_sl20Dec) (hx : (fun x : In_sl20Dec => rdB 7 x.1) x = true) : (fun (x : In_sl20Dec) (v : Out_sl20Dec) => Step 7 x.1 v.2.1 ∧ True) x (d_sl20Dec x) := (Classical.choose_spec x_sl20Dec x hx).2
theorem s_sl20Dec : C_sl20Dec (fun x => rdB 7 x.1) d_sl20Dec := S_sl20Dec s_sl20Rd_pick s_sl1Ten fun x hx => (Classical.choose_spec x_sl20Dec x hx).1
theorem q_sl20Dec (r : MRd) (a : Int × Unit) (h : RdOk 7 r) : Step 7 r (d_sl20Dec (r, a)).2.1 ∧ (True) := c_sl20Dec (r, a) (rdB_iff.2 h)
theorem x_sl20Ask : ∃ fn : In_sl20Ask → Out_sl20Ask, ∀ x, (fun x : In_sl20Ask => rdB 14 x.1) x = true → (∃ k, E_sl20Ask d_sl20Rd_pick (fun x => rdB 1 x.1) d_sl20Dec (fun x => rdB 7 x.1) k x = some (fn x)) ∧ (fun (x : In_sl20Ask) (v : Out_sl20Ask) => Step 14 x.1 v.2.1 ∧ True) x (fn x) := by
  refine choose_fn (fun k x => E_sl20Ask d_sl20Rd_pick (fun x => rdB 1 x.1) d_sl20Dec (fun x => rdB 7 x.1) k x) (fun x : In_sl20Ask => rdB 14 x.1) (fun (x : In_sl20Ask) (v : Out_sl20Ask) => Step 14 x.1 v.2.1 ∧ True) ((0, (0, 0), (0, 0), 0), (([], 0), ())) fun x hx => ?_
  have key : ∀ (r0 : MRd) (a1 : Int) (a2 : Int), RdOk 14 r0 → Gets (E_sl20Ask d_sl20Rd_pick (fun x => rdB 1 x.1) d_sl20Dec (fun x => rdB 7 x.1) 0 (r0, a1, a2, ())) (fun v => Step 14 r0 v.2.1 ∧ True) := by
    intro r0 a1 a2 h0
    have hs := Step.refl r0
    rw [ev_sl20Ask 0 r0 a1 a2]
    repeat' first
      | refine then_go (Q := PickQ) q_sl20Rd_pick h0 rfl (by assumption) (by decide) fun y r' hq hs => ?_
      | refine then_go (Q := fun a y => True) q_sl20Dec h0 rfl (by assumption) (by decide) fun y r' hq hs => ?_
      | refine gets_cl (pick_le (by assumption) (by decide) (by decide)) ?_
      | refine gets_need (pick_le (by assumption) (by decide) (by decide)) ?_
      | refine gets_need (pick_ix (by assumption) (by decide) (by exact Int.le_refl _)) ?_
      | exact gets_some ⟨Step.mono (by assumption) (by decide), trivial⟩
      | refine gets_both (fun hc => ?_) fun hc => ?_
  exact ⟨0, key x.1 x.2.1 x.2.2.1 (rdB_iff.1 hx)⟩
noncomputable def d_sl20Ask := Classical.choose x_sl20Ask
theorem c_sl20Ask (x : In_sl20Ask) (hx : (fun x : In_sl20Ask => rdB 14 x.1) x = true) : (fun (x : In_sl20Ask) (v : Out_sl20Ask) => Step 14 x.1 v.2.1 ∧ True) x (d_sl20Ask x) := (Classical.choose_spec x_sl20Ask x hx).2
theorem s_sl20Ask : C_sl20Ask (fun x => rdB 14 x.1) d_sl20Ask := S_sl20Ask s_sl20Rd_pick s_sl20Dec fun x hx => (Classical.choose_spec x_sl20Ask x hx).1
theorem q_sl20Ask (r : MRd) (a : Int × Int × Unit) (h : RdOk 14 r) : Step 14 r (d_sl20Ask (r, a)).2.1 ∧ (True) := c_sl20Ask (r, a) (rdB_iff.2 h)
theorem x_sl20Open : ∃ fn : In_sl20Open → Out_sl20Open, ∀ x, (fun x : In_sl20Open => bytesB x.1) x = true → (∃ k, E_sl20Open k x = some (fn x)) ∧ (fun (x : In_sl20Open) (v : Out_sl20Open) => RdOk 1000000 v.1) x (fn x) := by
  refine choose_fn (fun k x => E_sl20Open k x) (fun x : In_sl20Open => bytesB x.1) (fun (x : In_sl20Open) (v : Out_sl20Open) => RdOk 1000000 v.1) (([], 0), ()) fun x hx => ?_
  have key : ∀ xs : List Int, bytesB xs = true → Gets (E_sl20Open 0 (xs, ())) (fun v => RdOk 1000000 v.1) := by
    intro xs h
    rw [ev_sl20Open 0 xs]
    refine gets_both (fun hc => gets_need ?_ (gets_some (open_ok h))) fun hc => gets_some (open_ok2 h hc)
    have : (2000 : Int) < (xs.length : Int) := of_decide_eq_true hc
    show decide ((2000 : Int) ≤ (xs.length : Int)) = true
    exact decide_eq_true (by omega)
  exact ⟨0, key x.1 hx⟩
noncomputable def d_sl20Open := Classical.choose x_sl20Open
theorem c_sl20Open (x : In_sl20Open) (hx : (fun x : In_sl20Open => bytesB x.1) x = true) : (fun (x : In_sl20Open) (v : Out_sl20Open) => RdOk 1000000 v.1) x (d_sl20Open x) := (Classical.choose_spec x_sl20Open x hx).2
theorem s_sl20Open : C_sl20Open (fun x => bytesB x.1) d_sl20Open := S_sl20Open  fun x hx => (Classical.choose_spec x_sl20Open x hx).1
theorem x_sl20Tests : ∃ fn : In_sl20Tests → Out_sl20Tests, ∀ x, (fun x : In_sl20Tests => rdB 76 x.1) x = true → (∃ k, E_sl20Tests d_sl20Rd_pick (fun x => rdB 1 x.1) d_sl20Ask (fun x => rdB 14 x.1) k x = some (fn x)) ∧ (fun (x : In_sl20Tests) (v : Out_sl20Tests) => Step 76 x.1 v.2.1 ∧ (1 ≤ List.length v.1 ∧ List.length v.1 ≤ 5)) x (fn x) := by
  refine choose_fn (fun k x => E_sl20Tests d_sl20Rd_pick (fun x => rdB 1 x.1) d_sl20Ask (fun x => rdB 14 x.1) k x) (fun x : In_sl20Tests => rdB 76 x.1) (fun (x : In_sl20Tests) (v : Out_sl20Tests) => Step 76 x.1 v.2.1 ∧ (1 ≤ List.length v.1 ∧ List.length v.1 ≤ 5)) ([], (([], 0), ())) fun x hx => ?_
  have key : ∀ (r0 : MRd) (n : Int), RdOk 76 r0 → Gets (E_sl20Tests d_sl20Rd_pick (fun x => rdB 1 x.1) d_sl20Ask (fun x => rdB 14 x.1) 5 (r0, n, ())) (fun v => Step 76 r0 v.2.1 ∧ (1 ≤ List.length v.1 ∧ List.length v.1 ≤ 5)) := by
    intro r0 n h0
    rw [ev_sl20Tests 5 r0 n]
    refine gets_loop (σ := MRd × List MAsk) (fun k i s => r_sl20Tests d_sl20Rd_pick (fun x => rdB 1 x.1) d_sl20Ask (fun x => rdB 14 x.1) (r0, n, ()) k [false, true, false, true, true] (h0_sl20Tests r0 n ((i + 1 : Nat) : Int) s.1 s.2)) _ (fun i s => Step (15 * i) r0 s.1 ∧ List.length s.2 ≤ i) 4 (fun k s hs => ?_) (fun k i s hi hs next => ?_) 4 0 (r0, []) rfl ⟨Step.refl r0, Nat.le_refl _⟩
    · obtain ⟨r, l⟩ := s
      obtain ⟨hs, hl⟩ := hs
      have hs : Step 60 r0 r := hs
      have hl : List.length l ≤ 4 := hl
      show Gets (r_sl20Tests d_sl20Rd_pick (fun x => rdB 1 x.1) d_sl20Ask (fun x => rdB 14 x.1) (r0, n, ()) (k + 1) [false, true, false, true, true] (h0_sl20Tests r0 n ((4 + 1 : Nat) : Int) r l)) _
      rw [rd0_sl20Tests]
      refine gets_both (fun hc => ?_) fun _ => ?_
      · exact absurd (of_decide_eq_true hc) (by decide)
      · refine gets_both (fun hc => ?_) fun hc => ?_
        · have hl0 : l = [] := List.eq_nil_of_length_eq_zero (by have : (List.length l : Int) = 0 := of_decide_eq_true hc; omega)
          subst hl0
          refine then_go (Q := fun a y => True) q_sl20Ask h0 rfl hs (by decide) fun y r' _ hs => gets_need rfl (then_go (Q := PickQ) q_sl20Rd_pick h0 rfl hs (by decide) fun z r' _ hs => gets_both (fun hc => gets_need rfl (gets_need rfl (gets_some ⟨hs.mono (by decide), ?_⟩))) fun hc => gets_some ⟨hs.mono (by decide), ?_⟩)
          · show (1 : Nat) ≤ 2 ∧ 2 ≤ 5
            decide
          · show (1 : Nat) ≤ 1 ∧ 1 ≤ 5
            decide
        · have hl0 : 1 ≤ List.length l := by have : ¬ ((List.length l : Int) = 0) := of_decide_eq_false hc; omega
          refine then_go (Q := PickQ) q_sl20Rd_pick h0 rfl hs (by decide) fun z r' _ hs => gets_both (fun hc => gets_need ?_ (gets_need (fitL_eq (by show l.length + 1 ≤ _; omega)) (gets_some ⟨hs.mono (by decide), ?_⟩))) fun hc => gets_some ⟨hs.mono (by decide), hl0, ?_⟩
          · show decide ((0 : Int) < (List.length l : Int)) = true
            exact decide_eq_true (by omega)
          · show 1 ≤ List.length (l ++ [_]) ∧ List.length (l ++ [_]) ≤ 5
            rw [List.length_append]; exact ⟨by omega, by show l.length + 1 ≤ 5; omega⟩
          · show l.length ≤ 5
            omega
    · obtain ⟨r, l⟩ := s
      obtain ⟨hs, hl⟩ := hs
      have hs : Step (15 * i) r0 r := hs
      have hl : List.length l ≤ i := hl
      have hw : w64 (((i + 1 : Nat) : Int) + 1) = ((i + 1 + 1 : Nat) : Int) := w_succ (by omega)
      show Gets (r_sl20Tests d_sl20Rd_pick (fun x => rdB 1 x.1) d_sl20Ask (fun x => rdB 14 x.1) (r0, n, ()) (k + 1) [false, true, false, true, true] (h0_sl20Tests r0 n ((i + 1 : Nat) : Int) r l)) _
      rw [rd0_sl20Tests, hw]
      refine gets_both (fun _ => ?_) fun hc => absurd (show ((i + 1 : Nat) : Int) ≤ 4 by omega) (of_decide_eq_false hc)
      refine then_go (Q := PickQ) q_sl20Rd_pick h0 rfl hs (by omega) fun z r' _ hs => gets_both (fun hc => ?_) fun hc => ?_
      · refine then_go (Q := fun a y => True) q_sl20Ask h0 rfl hs (by omega) fun y r' _ hs => gets_need (fitL_eq (by show l.length + 1 ≤ _; omega)) ?_
        refine next (r', l ++ [y]) ⟨hs.mono (by omega), ?_⟩
        show List.length (l ++ [y]) ≤ i + 1
        rw [List.length_append]; show l.length + 1 ≤ i + 1; omega
      · exact next (r', l) ⟨hs.mono (by omega), by show l.length ≤ i + 1; omega⟩
  exact ⟨5, key x.1 x.2.1 (rdB_iff.1 hx)⟩
noncomputable def d_sl20Tests := Classical.choose x_sl20Tests
theorem c_sl20Tests (x : In_sl20Tests) (hx : (fun x : In_sl20Tests => rdB 76 x.1) x = true) : (fun (x : In_sl20Tests) (v : Out_sl20Tests) => Step 76 x.1 v.2.1 ∧ (1 ≤ List.length v.1 ∧ List.length v.1 ≤ 5)) x (d_sl20Tests x) := (Classical.choose_spec x_sl20Tests x hx).2
theorem s_sl20Tests : C_sl20Tests (fun x => rdB 76 x.1) d_sl20Tests := S_sl20Tests s_sl20Rd_pick s_sl20Ask fun x hx => (Classical.choose_spec x_sl20Tests x hx).1
theorem q_sl20Tests (r : MRd) (a : Int × Unit) (h : RdOk 76 r) : Step 76 r (d_sl20Tests (r, a)).2.1 ∧ (1 ≤ List.length (d_sl20Tests (r, a)).1 ∧ List.length (d_sl20Tests (r, a)).1 ≤ 5) := c_sl20Tests (r, a) (rdB_iff.2 h)
end Go.Proofs.Ytkjimaolpijoiaa
