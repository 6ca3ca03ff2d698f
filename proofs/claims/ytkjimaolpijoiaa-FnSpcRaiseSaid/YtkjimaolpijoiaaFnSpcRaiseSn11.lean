/- The contracts: draws of specifications. Made by a program. -/
import Derived.Test.YtkjimaolpijoiaaFnSpcRaiseSn10
set_option linter.unusedVariables false
set_option linter.unusedSimpArgs false
namespace Go.Proofs.Ytkjimaolpijoiaa
open Go.Vm
theorem x_sl20Specs : ∃ fn : In_sl20Specs → Out_sl20Specs, ∀ x, (fun x : In_sl20Specs => rdB 500 x.1) x = true → (∃ k, E_sl20Specs d_sl20Rd_pick (fun x => rdB 1 x.1) d_sl20Tests (fun x => rdB 76 x.1) (fun x => ((spcAdd x.1 x.2.1).1, (spcAdd x.1 x.2.1).2, ())) (fun x => smS x.1 && smA x.2.1) (fun x => ((spcRaise x.1 x.2.1).1, (spcRaise x.1 x.2.1).2, ())) (fun x => smS x.1) k x = some (fn x)) ∧ (fun (x : In_sl20Specs) (v : Out_sl20Specs) => Step 500 x.1 v.2.1 ∧ SpQ v.1) x (fn x) := by
  refine choose_fn (fun k x => E_sl20Specs d_sl20Rd_pick (fun x => rdB 1 x.1) d_sl20Tests (fun x => rdB 76 x.1) (fun x => ((spcAdd x.1 x.2.1).1, (spcAdd x.1 x.2.1).2, ())) (fun x => smS x.1 && smA x.2.1) (fun x => ((spcRaise x.1 x.2.1).1, (spcRaise x.1 x.2.1).2, ())) (fun x => smS x.1) k x) (fun x : In_sl20Specs => rdB 500 x.1) (fun (x : In_sl20Specs) (v : Out_sl20Specs) => Step 500 x.1 v.2.1 ∧ SpQ v.1) ([], (([], 0), ())) fun x hx => ?_
  have key : ∀ (r0 : MRd) (n : Int), RdOk 500 r0 → Gets (E_sl20Specs d_sl20Rd_pick (fun x => rdB 1 x.1) d_sl20Tests (fun x => rdB 76 x.1) (fun x => ((spcAdd x.1 x.2.1).1, (spcAdd x.1 x.2.1).2, ())) (fun x => smS x.1 && smA x.2.1) (fun x => ((spcRaise x.1 x.2.1).1, (spcRaise x.1 x.2.1).2, ())) (fun x => smS x.1) 5 (r0, n, ())) (fun v => Step 500 r0 v.2.1 ∧ SpQ v.1) := by
    intro r0 n h0
    rw [ev_sl20Specs 5 r0 n]
    refine then_go (Q := PickQ) q_sl20Rd_pick h0 rfl (Step.refl r0) (by decide) fun m r1 hm hs1 => ?_
    obtain ⟨hm0, hm1⟩ := hm
    have hm1 : m < 5 := hm1 (by decide)
    obtain ⟨j, rfl⟩ : ∃ j : Nat, m = (j : Int) := ⟨m.toNat, by have : 0 ≤ m := hm0; omega⟩
    have hj : j ≤ 4 := by omega
    have hj5 : 5 = (4 - j) + (j + 1) := by omega
    show Gets (r_sl20Specs d_sl20Rd_pick (fun x => rdB 1 x.1) d_sl20Tests (fun x => rdB 76 x.1) (fun x => ((spcAdd x.1 x.2.1).1, (spcAdd x.1 x.2.1).2, ())) (fun x => smS x.1 && smA x.2.1) (fun x => ((spcRaise x.1 x.2.1).1, (spcRaise x.1 x.2.1).2, ())) (fun x => smS x.1) (r0, n, ()) 5 [false, true, false, true, true] (h0_sl20Specs r0 n (j : Int) r1 [])) _
    refine gets_loop (σ := MRd × List MSpc) (fun k i s => r_sl20Specs d_sl20Rd_pick (fun x => rdB 1 x.1) d_sl20Tests (fun x => rdB 76 x.1) (fun x => ((spcAdd x.1 x.2.1).1, (spcAdd x.1 x.2.1).2, ())) (fun x => smS x.1 && smA x.2.1) (fun x => ((spcRaise x.1 x.2.1).1, (spcRaise x.1 x.2.1).2, ())) (fun x => smS x.1) (r0, n, ()) (4 - j + k) [false, true, false, true, true] (h0_sl20Specs r0 n ((j - i : Nat) : Int) s.1 s.2)) _ (fun i s => Step (1 + 80 * i) r0 s.1 ∧ SpI i s.2) j (fun k s hs => ?_) (fun k i s hi hs next => ?_) j 0 (r1, []) (by omega) ⟨hs1.mono (by decide), SpI.nil⟩ |> fun h => (by rw [← hj5] at h; exact h)
    · obtain ⟨r, l⟩ := s
      obtain ⟨hs, hl⟩ := hs
      have hs : Step (1 + 80 * j) r0 r := hs
      have hl : SpI j l := hl
      have hs := hs.mono (show 1 + 80 * j ≤ 321 by omega)
      show Gets (r_sl20Specs d_sl20Rd_pick (fun x => rdB 1 x.1) d_sl20Tests (fun x => rdB 76 x.1) (fun x => ((spcAdd x.1 x.2.1).1, (spcAdd x.1 x.2.1).2, ())) (fun x => smS x.1 && smA x.2.1) (fun x => ((spcRaise x.1 x.2.1).1, (spcRaise x.1 x.2.1).2, ())) (fun x => smS x.1) (r0, n, ()) (4 - j + k + 1) [false, true, false, true, true] (h0_sl20Specs r0 n ((j - j : Nat) : Int) r l)) _
      rw [Nat.sub_self, rd0_sl20Specs]
      refine gets_both (fun hc => absurd (of_decide_eq_true hc) (by decide)) fun _ => ?_
      refine gets_both (fun hc => ?_) fun hc => gets_some ⟨hs.mono (by decide), hl.q hj⟩
      have hlen : 0 < List.length l := by have : (0 : Int) < (List.length l : Int) := of_decide_eq_true hc; omega
      refine then_go (Q := PickQ) q_sl20Rd_pick h0 rfl hs (by decide) fun z r' _ hs => gets_both (fun _ => ?_) fun _ => gets_some ⟨hs.mono (by decide), hl.q hj⟩
      refine then_go (Q := PickQ) q_sl20Rd_pick h0 rfl hs (by decide) fun y r' hy hs => then_go (Q := PickQ) q_sl20Rd_pick h0 rfl hs (by decide) fun z r' _ hs => ?_
      have hin : (bif decide ((0 : Int) ≤ y) then decide (y < (List.length l : Int)) else false) = true := pick_ix hy (by omega) (Int.le_refl _)
      refine gets_both (fun _ => ?_) fun _ => ?_
      · refine then_go (Q := PickQ) q_sl20Rd_pick h0 rfl hs (by decide) fun w r' hw hs => gets_need (pick_ix hw (by decide) (by exact Int.le_refl _)) (gets_need hin (gets_some ⟨hs.mono (by decide), ?_⟩))
        show SpQ (List.set l (Int.toNat y) ((l.getD y.toNat ([], 0)).1, _))
        have hh := hl.getD y.toNat
        refine (hl.set _ _ ?_).q hj
        exact hh
      · refine then_go (Q := fun a y => 1 ≤ List.length y ∧ List.length y ≤ 5) q_sl20Tests h0 rfl hs (by decide) fun w r' hw hs => gets_need hin (gets_some ⟨hs.mono (by decide), ?_⟩)
        exact (hl.set _ _ hw.2).q hj
    · obtain ⟨r, l⟩ := s
      obtain ⟨hs, hl⟩ := hs
      have hs : Step (1 + 80 * i) r0 r := hs
      have hl : SpI i l := hl
      have hq := hl.sm (by omega)
      show Gets (r_sl20Specs d_sl20Rd_pick (fun x => rdB 1 x.1) d_sl20Tests (fun x => rdB 76 x.1) (fun x => ((spcAdd x.1 x.2.1).1, (spcAdd x.1 x.2.1).2, ())) (fun x => smS x.1 && smA x.2.1) (fun x => ((spcRaise x.1 x.2.1).1, (spcRaise x.1 x.2.1).2, ())) (fun x => smS x.1) (r0, n, ()) (4 - j + k + 1) [false, true, false, true, true] (h0_sl20Specs r0 n ((j - i : Nat) : Int) r l)) _
      have hw : w64 (((j - i : Nat) : Int) - 1) = ((j - (i + 1) : Nat) : Int) := by rw [w64_eq (by omega) (by omega)]; omega
      rw [rd0_sl20Specs, hw]
      refine gets_both (fun _ => ?_) fun hc => absurd (show (0 : Int) < ((j - i : Nat) : Int) by omega) (of_decide_eq_false hc)
      refine then_go (Q := fun a y => 1 ≤ List.length y ∧ List.length y ≤ 5) q_sl20Tests h0 rfl hs (by omega) fun t r' ht hs => ?_
      refine gets_cl (by show (smS l && smA t) = true; rw [hq, smA_of ht.2]; rfl) ?_
      have ha := hl.add ht.2
      show Gets (bif (spcAdd l t).2 then _ else _) _
      refine gets_both (fun hc => ?_) fun hc => ?_
      · refine then_go (Q := PickQ) q_sl20Rd_pick h0 rfl hs (by omega) fun z r' _ hs => gets_both (fun _ => ?_) fun _ => ?_
        · refine then_go (Q := PickQ) q_sl20Rd_pick h0 rfl hs (by omega) fun w r' _ hs => gets_cl (ha.sm (by omega)) ?_
          exact next (r', _) ⟨hs.mono (by omega), ha.raise _⟩
        · exact next (r', _) ⟨hs.mono (by omega), ha⟩
      · have hl' : SpI (i + 1) l := hl.mono
        refine then_go (Q := PickQ) q_sl20Rd_pick h0 rfl hs (by omega) fun z r' _ hs => gets_both (fun _ => ?_) fun _ => ?_
        · refine then_go (Q := PickQ) q_sl20Rd_pick h0 rfl hs (by omega) fun w r' _ hs => gets_cl (hl'.sm (by omega)) ?_
          exact next (r', _) ⟨hs.mono (by omega), hl'.raise _⟩
        · exact next (r', _) ⟨hs.mono (by omega), hl'⟩
  exact ⟨5, key x.1 x.2.1 (rdB_iff.1 hx)⟩
noncomputable def d_sl20Specs := Classical.choose x_sl20Specs
theorem c_sl20Specs (x : In_sl20Specs) (hx : (fun x : In_sl20Specs => rdB 500 x.1) x = true) : (fun (x : In_sl20Specs) (v : Out_sl20Specs) => Step 500 x.1 v.2.1 ∧ SpQ v.1) x (d_sl20Specs x) := (Classical.choose_spec x_sl20Specs x hx).2
theorem s_sl20Specs : C_sl20Specs (fun x => rdB 500 x.1) d_sl20Specs := S_sl20Specs s_sl20Rd_pick s_sl20Tests s_sSpcAdd s_sSpcRaise fun x hx => (Classical.choose_spec x_sl20Specs x hx).1
theorem q_sl20Specs (r : MRd) (a : Int × Unit) (h : RdOk 500 r) : Step 500 r (d_sl20Specs (r, a)).2.1 ∧ SpQ (d_sl20Specs (r, a)).1 := c_sl20Specs (r, a) (rdB_iff.2 h)
theorem x_sDrawSpcRaise : ∃ fn : In_sDrawSpcRaise → Out_sDrawSpcRaise, ∀ x, (fun x : In_sDrawSpcRaise => bytesB x.1) x = true → (∃ k, E_sDrawSpcRaise d_sl20Open (fun x => bytesB x.1) d_sl20Specs (fun x => rdB 500 x.1) d_sl20Rd_pick (fun x => rdB 1 x.1) k x = some (fn x)) ∧ (fun (x : In_sDrawSpcRaise) (v : Out_sDrawSpcRaise) => SpQ v.1) x (fn x) := by
  refine choose_fn (fun k x => E_sDrawSpcRaise d_sl20Open (fun x => bytesB x.1) d_sl20Specs (fun x => rdB 500 x.1) d_sl20Rd_pick (fun x => rdB 1 x.1) k x) (fun x : In_sDrawSpcRaise => bytesB x.1) (fun (x : In_sDrawSpcRaise) (v : Out_sDrawSpcRaise) => SpQ v.1) ([], 0, ()) fun x hx => ?_
  have key : ∀ xs : List Int, bytesB xs = true → Gets (E_sDrawSpcRaise d_sl20Open (fun x => bytesB x.1) d_sl20Specs (fun x => rdB 500 x.1) d_sl20Rd_pick (fun x => rdB 1 x.1) 0 (xs, ())) (fun v => SpQ v.1) := by
    intro xs h
    rw [ev_sDrawSpcRaise 0 xs]
    refine then_fst (Q := fun r => RdOk 1000000 r) h (c_sl20Open (xs, ()) h) fun r0 h0 => ?_
    have hs := Step.refl r0
    repeat' first
      | refine then_go (Q := fun a y => SpQ y) q_sl20Specs h0 rfl (by assumption) (by decide) fun y r' hq hs => ?_
      | refine then_go (Q := PickQ) q_sl20Rd_pick h0 rfl (by assumption) (by decide) fun y r' hq hs => ?_
      | refine gets_need (pick_ix (by assumption) (by decide) (by exact Int.le_refl _)) ?_
      | exact gets_some (by assumption)
      | refine gets_both (fun hc => ?_) fun hc => ?_
  exact ⟨0, key x.1 hx⟩
noncomputable def d_sDrawSpcRaise := Classical.choose x_sDrawSpcRaise
theorem c_sDrawSpcRaise (x : In_sDrawSpcRaise) (hx : (fun x : In_sDrawSpcRaise => bytesB x.1) x = true) : (fun (x : In_sDrawSpcRaise) (v : Out_sDrawSpcRaise) => SpQ v.1) x (d_sDrawSpcRaise x) := (Classical.choose_spec x_sDrawSpcRaise x hx).2
theorem s_sDrawSpcRaise : C_sDrawSpcRaise (fun x => bytesB x.1) d_sDrawSpcRaise := S_sDrawSpcRaise s_sl20Open s_sl20Specs s_sl20Rd_pick fun x hx => (Classical.choose_spec x_sDrawSpcRaise x hx).1

end Go.Proofs.Ytkjimaolpijoiaa
