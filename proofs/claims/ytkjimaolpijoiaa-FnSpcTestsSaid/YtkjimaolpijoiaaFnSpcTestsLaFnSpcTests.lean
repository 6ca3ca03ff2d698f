/- Tests are ok one by one. -/
import Derived.Test.YtkjimaolpijoiaaFnSpcTestsSn9
set_option linter.unusedVariables false
set_option linter.unusedSimpArgs false
namespace Go.Proofs.Ytkjimaolpijoiaa
open Go.Vm
theorem s_lFnSpcTests : C_lFnSpcTests (lawPre _) (fun _ => (true, ())) := S_lFnSpcTests s_sDrawSpcTestsOk s_iSpcTestsOk s_sSpcTestsOk s_iSpcFind fun x hx => by
  have hb : bytesB x.1 = true := bytes_of (lawPre_iff.1 hx).1.2
  have hd := c_sDrawSpcTestsOk (x.1, ()) hb
  generalize hD : d_sDrawSpcTestsOk (x.1, ()) = D at hd
  obtain ⟨l, u⟩ := D
  have hl1 : 1 ≤ List.length l := hd.1
  have hl5 : List.length l ≤ 5 := hd.2
  have fin : Gets (cl (decide (List.length [((1 : Int), (((0 : Int), (0 : Int)), (((0 : Int), (0 : Int)), (0 : Int))))] ≤ 4294967296)) (testsOk [((1 : Int), (((0 : Int), (0 : Int)), (((0 : Int), (0 : Int)), (0 : Int))))], ()) fun y => some (y.1, ())) (fun v => v = (true, ())) := gets_cl rfl (gets_some rfl)
  -- the second loop
  have two : ∀ (e : Nat) (ok : Bool), ok = testsOk l → Gets (r_lFnSpcTests d_sDrawSpcTestsOk (fun x => bytesB x.1) (fun x => (testsOk x.1, ())) (fun x => decide (List.length x.1 ≤ 4294967296)) (fun x => (testsOk x.1, ())) (fun x => ((spcFind x.1 x.2.1).1, (spcFind x.1 x.2.1).2, ())) (fun x => decide (List.length x.1 ≤ 4294967296)) (x.1, ()) (e + (List.length l + 1)) [false, true, false, true, true, true, true, true, true] (h1_lFnSpcTests x.1 l ok ((0 : Nat) : Int))) (fun v => v = (true, ())) := by
    intro e ok hok
    refine gets_loop (σ := Unit) (fun k i _ => r_lFnSpcTests d_sDrawSpcTestsOk (fun x => bytesB x.1) (fun x => (testsOk x.1, ())) (fun x => decide (List.length x.1 ≤ 4294967296)) (fun x => (testsOk x.1, ())) (fun x => ((spcFind x.1 x.2.1).1, (spcFind x.1 x.2.1).2, ())) (fun x => decide (List.length x.1 ≤ 4294967296)) (x.1, ()) (e + k) [false, true, false, true, true, true, true, true, true] (h1_lFnSpcTests x.1 l ok (i : Int))) _ (fun _ _ => True) (List.length l) (fun k s hs => ?_) (fun k i s hi hs next => ?_) (List.length l) 0 () (by omega) trivial
    · show Gets (r_lFnSpcTests d_sDrawSpcTestsOk (fun x => bytesB x.1) (fun x => (testsOk x.1, ())) (fun x => decide (List.length x.1 ≤ 4294967296)) (fun x => (testsOk x.1, ())) (fun x => ((spcFind x.1 x.2.1).1, (spcFind x.1 x.2.1).2, ())) (fun x => decide (List.length x.1 ≤ 4294967296)) (x.1, ()) (e + k + 1) [false, true, false, true, true, true, true, true, true] (h1_lFnSpcTests x.1 l ok ((List.length l : Nat) : Int))) _
      rw [rd1_lFnSpcTests, lt_false (Nat.le_refl _)]
      exact fin
    · show Gets (r_lFnSpcTests d_sDrawSpcTestsOk (fun x => bytesB x.1) (fun x => (testsOk x.1, ())) (fun x => decide (List.length x.1 ≤ 4294967296)) (fun x => (testsOk x.1, ())) (fun x => ((spcFind x.1 x.2.1).1, (spcFind x.1 x.2.1).2, ())) (fun x => decide (List.length x.1 ≤ 4294967296)) (x.1, ()) (e + k + 1) [false, true, false, true, true, true, true, true, true] (h1_lFnSpcTests x.1 l ok (i : Int))) _
      have hdr : l.drop i = l[i] :: l.drop (i + 1) := List.drop_eq_getElem_cons hi
      rw [rd1_lFnSpcTests, in_true hi, lt_true hi, w_succ (by omega), rdL_drop hdr]
      refine gets_both (fun _ => ?_) fun h => by cases h
      refine gets_both (fun ho => ?_) fun _ => fin
      have hoks : asksOk none l = true := by
        rw [ho] at hok
        unfold testsOk at hok
        simp only [Bool.true_eq, Bool.and_eq_true] at hok
        exact hok.2
      have hf : spcFind l l[i].1 = (l[i], true) := by
        have e := asks_find l none hoks i 0 _ _ hdr
        rw [Nat.zero_add] at e
        unfold spcFind
        rw [e, decide_eq_false (by omega)]
        show (rdL (e := S_SpcTest) l (i : Int), true) = _
        rw [rdL_drop hdr]
      refine gets_need rfl (gets_cl (decide_eq_true (show List.length l ≤ 4294967296 by omega)) ?_)
      show Gets (bif (bif (spcFind l l[i].1).2 then false else true) then _ else (bif _ then (bif (bif (Sh.beq S_SpcTest (spcFind l l[i].1).1 l[i]) then false else true) then _ else _) else _)) _
      rw [hf, beq_ask, same_self]
      exact next () trivial
  -- the first loop
  have one : Gets (r_lFnSpcTests d_sDrawSpcTestsOk (fun x => bytesB x.1) (fun x => (testsOk x.1, ())) (fun x => decide (List.length x.1 ≤ 4294967296)) (fun x => (testsOk x.1, ())) (fun x => ((spcFind x.1 x.2.1).1, (spcFind x.1 x.2.1).2, ())) (fun x => decide (List.length x.1 ≤ 4294967296)) (x.1, ()) (List.length l + 1 + (List.length l + 1)) [false, true, false, true, true, true, true] (h0_lFnSpcTests x.1 l (decide ((List.length l : Int) ≤ (4 : Int))) ((0 : Nat) : Int))) (fun v => v = (true, ())) := by
    have ge := gets_loop (σ := Bool) (fun k i ok => r_lFnSpcTests d_sDrawSpcTestsOk (fun x => bytesB x.1) (fun x => (testsOk x.1, ())) (fun x => decide (List.length x.1 ≤ 4294967296)) (fun x => (testsOk x.1, ())) (fun x => ((spcFind x.1 x.2.1).1, (spcFind x.1 x.2.1).2, ())) (fun x => decide (List.length x.1 ≤ 4294967296)) (x.1, ()) (List.length l + 1 + k) [false, true, false, true, true, true, true] (h0_lFnSpcTests x.1 l ok (i : Int))) (fun v => v = (true, ())) (fun i ok => ok = (decide ((List.length l : Int) ≤ 4) && asksOk none (l.take i))) (List.length l) (fun k s hs => ?_) (fun k i s hi hs next => ?_) (List.length l) 0 (decide ((List.length l : Int) ≤ (4 : Int))) (by omega) (by rw [List.take_zero]; exact (Bool.and_true _).symm)
    · exact ge
    · rw [List.take_length] at hs
      have ht : s = testsOk l := by
        rw [hs]; unfold testsOk inq
        rw [decide_eq_true (show (1 : Int) ≤ (List.length l : Int) by omega), Bool.true_and]
      show Gets (r_lFnSpcTests d_sDrawSpcTestsOk (fun x => bytesB x.1) (fun x => (testsOk x.1, ())) (fun x => decide (List.length x.1 ≤ 4294967296)) (fun x => (testsOk x.1, ())) (fun x => ((spcFind x.1 x.2.1).1, (spcFind x.1 x.2.1).2, ())) (fun x => decide (List.length x.1 ≤ 4294967296)) (x.1, ()) (List.length l + 1 + k + 1) [false, true, false, true, true, true, true] (h0_lFnSpcTests x.1 l s ((List.length l : Nat) : Int))) _
      rw [rd0_lFnSpcTests, lt_false (Nat.le_refl _), cond_false]
      have hp : decide (List.length l ≤ 4294967296) = true := decide_eq_true (by omega)
      refine gets_cl hp ?_
      show Gets (bif (bif (testsOk l == s) then false else true) then _ else _) _
      rw [ht, beq_self_eq_true]
      refine gets_both (fun h => by cases h) fun _ => gets_need hp ?_
      refine gets_both (fun h => by cases h) fun _ => ?_
      rw [Nat.add_comm (List.length l + 1) k]
      exact two k _ rfl
    · show Gets (r_lFnSpcTests d_sDrawSpcTestsOk (fun x => bytesB x.1) (fun x => (testsOk x.1, ())) (fun x => decide (List.length x.1 ≤ 4294967296)) (fun x => (testsOk x.1, ())) (fun x => ((spcFind x.1 x.2.1).1, (spcFind x.1 x.2.1).2, ())) (fun x => decide (List.length x.1 ≤ 4294967296)) (x.1, ()) (List.length l + 1 + k + 1) [false, true, false, true, true, true, true] (h0_lFnSpcTests x.1 l s (i : Int))) _
      have hdr : l.drop i = l[i] :: l.drop (i + 1) := List.drop_eq_getElem_cons hi
      rw [rd0_lFnSpcTests, in_true hi, lt_true hi, w_succ (by omega), one_of hi, cond_true]
      cases s with
      | false =>
        rw [cond_false]
        refine next false ?_
        cases i with
        | zero =>
          rw [asks_take0 hi]
          have hs : false = (decide ((List.length l : Int) ≤ 4) && true) := hs
          rw [Bool.and_true] at hs
          rw [← hs]; rfl
        | succ j => rw [asks_takeS hi, ← Bool.and_assoc, ← hs]; rfl
      | true =>
        rw [cond_true]
        refine gets_need ?_ (gets_cl rfl ?_)
        · rw [decide_eq_true (show (0 : Int) ≤ (i : Int) by omega), decide_eq_true (show (i : Int) ≤ ((i + 1 : Nat) : Int) by omega)]
          exact decide_eq_true (by omega)
        · show Gets (bif testsOk [l[i]] then _ else _) _
          rw [testsOk_one]
          have h4 : decide ((List.length l : Int) ≤ 4) = true := by
            cases h : decide ((List.length l : Int) ≤ 4)
            · rw [h] at hs; cases hs
            · rfl
          have hs' : asksOk none (l.take i) = true := by rw [h4] at hs; exact hs.symm
          refine gets_both (fun ha => ?_) fun ha => ?_
          · cases i with
            | zero =>
              refine gets_both (fun _ => ?_) fun h => absurd (show ((0 : Nat) : Int) = 0 from rfl) (of_decide_eq_false h)
              exact next true (by rw [asks_take0 hi, ha, h4]; rfl)
            | succ j =>
              refine gets_both (fun h => by have h : ((j + 1 : Nat) : Int) = 0 := of_decide_eq_true h; omega) fun _ => ?_
              have hw : w64 (((j + 1 : Nat) : Int) - 1) = (j : Int) := by rw [w64_eq (by omega) (by omega)]; omega
              have hj : j < l.length := by omega
              rw [hw, in_true hj, rdL_at hj, rdL_at hi]
              refine gets_need rfl (gets_need rfl (next _ ?_))
              rw [asks_takeS hi, ha, h4, hs']; rfl
          · refine next false ?_
            cases i with
            | zero => rw [asks_take0 hi, ha, Bool.and_false]
            | succ j => rw [asks_takeS hi, ha, Bool.false_and, Bool.and_false, Bool.and_false]
  exact ⟨List.length l + 1 + (List.length l + 1), (ev_lFnSpcTests _ x.1).trans (by
    refine gets_true (gets_both (fun _ => gets_some rfl) fun _ => gets_cl hb ?_)
    rw [hD]
    show Gets (bif decide ((1 : Int) ≤ (List.length l : Int)) then _ else _) _
    rw [decide_eq_true (show (1 : Int) ≤ (List.length l : Int) by omega)]
    rw [cond_true]
    exact one)⟩

end Go.Proofs.Ytkjimaolpijoiaa
