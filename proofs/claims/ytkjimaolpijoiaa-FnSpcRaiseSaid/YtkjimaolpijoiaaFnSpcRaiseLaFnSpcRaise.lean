/- One specification is in force at a time. -/
import Derived.Test.YtkjimaolpijoiaaFnSpcRaiseSn11
set_option linter.unusedVariables false
set_option linter.unusedSimpArgs false
namespace Go.Proofs.Ytkjimaolpijoiaa
open Go.Vm
theorem s_lFnSpcRaise : C_lFnSpcRaise (lawPre _) (fun _ => (true, ())) := S_lFnSpcRaise s_sDrawSpcRaise s_iSpcRaise s_sSpcRaise s_lcuSpecs s_iSpcOk s_sSpcOk s_lcuOk s_lcuTests s_iSpcNow fun x hx => ⟨5, (ev_lFnSpcRaise 5 x.1).trans (by
  have hb : bytesB x.1 = true := bytes_of (lawPre_iff.1 hx).1.2
  have hd := c_sDrawSpcRaise (x.1, ()) hb
  refine gets_true (gets_both (fun _ => gets_some rfl) fun _ => gets_cl hb ?_)
  generalize d_sDrawSpcRaise (x.1, ()) = D at hd ⊢
  obtain ⟨l, n, u⟩ := D
  have hl : SpQ l := hd
  have hlen : List.length l ≤ 4 := hl.1
  have ha := SpI.raise hl n
  have hz : smS (spcRaise l n).1 = true := ha.sm (by decide)
  refine gets_cl hl.sm (gets_cl hl.sm (gets_cl hz ?_))
  show Gets (bif (bif same (spcRaise l n).1 (spcRaise l n).1 then false else true) then _ else (bif (bif ((spcRaise l n).2 == (spcRaise l n).2) then false else true) then _ else _)) _
  rw [same_self, beq_self_eq_true]
  refine gets_both (fun h => by cases h) fun _ => gets_both (fun h => by cases h) fun _ => gets_cl hl.sm ?_
  show Gets (bif (bif (spcsOk l == spcsOk l) then false else true) then _ else (bif (bif (spcRaise l n).2 then false else true) then _ else _)) _
  rw [beq_self_eq_true]
  refine gets_both (fun h => by cases h) fun _ => ?_
  cases hc : (spcsOk l && (inq n 0 ((l.length : Int) - 1) && decide ((l.getD n.toNat ([], 0)).2 = 1)))
  · have e1 : spcRaise l n = (l, false) := by unfold spcRaise; rw [hc]; rfl
    rw [e1] at hz ⊢
    refine gets_both (fun _ => gets_cl hz ?_) fun h => by cases h
    show Gets (bif same l l then some (true, ()) else _) _
    rw [same_self]
    exact gets_some rfl
  · have e1 : spcRaise l n = ((l.map retire).set n.toNat ((l.getD n.toNat ([], 0)).1, 2), true) := by unfold spcRaise; rw [hc]; rfl
    have hr := raise_ok hc
    rw [e1] at hz ha ⊢
    refine gets_both (fun h => by cases h) fun _ => ?_
    have ha : SpI 4 ((l.map retire).set n.toNat ((l.getD n.toNat ([], 0)).1, 2)) := ha
    have hz : smS ((l.map retire).set n.toNat ((l.getD n.toNat ([], 0)).1, 2)) = true := hz
    show Gets (r_lFnSpcRaise d_sDrawSpcRaise (fun x => bytesB x.1) (fun x => ((spcRaise x.1 x.2.1).1, (spcRaise x.1 x.2.1).2, ())) (fun x => smS x.1) (fun x => ((spcRaise x.1 x.2.1).1, (spcRaise x.1 x.2.1).2, ())) (fun x => smS x.1) (fun x => (same x.1 x.2.1, ())) (fun x => smS x.1) (fun x => (spcsOk x.1, ())) (fun x => smS x.1) (fun x => (spcsOk x.1, ())) (fun _ => (true, ())) (fun x => (same x.1 x.2.1, ())) (fun x => decide (List.length x.1 ≤ 4294967296)) (fun x => (spcNow x.1, ())) (fun x => decide (List.length x.1 ≤ 4294967296)) (x.1, ()) 5 [false, true, false, true, true, true, true, true, true, true] (h0_lFnSpcRaise x.1 l n (0 : Int) ((l.map retire).set n.toNat ((l.getD n.toNat ([], 0)).1, 2)))) _
    generalize (l.map retire).set n.toNat ((l.getD n.toNat ([], 0)).1, 2) = y at hr ha hz ⊢
    obtain ⟨r1, r2, r3, r4, r5, r6, r7, r8⟩ := hr
    obtain ⟨j, hj⟩ : ∃ j : Nat, 5 = j + (List.length l + 1) := ⟨4 - List.length l, by omega⟩
    rw [hj]
    refine gets_loop (σ := Unit) (fun k i _ => r_lFnSpcRaise d_sDrawSpcRaise (fun x => bytesB x.1) (fun x => ((spcRaise x.1 x.2.1).1, (spcRaise x.1 x.2.1).2, ())) (fun x => smS x.1) (fun x => ((spcRaise x.1 x.2.1).1, (spcRaise x.1 x.2.1).2, ())) (fun x => smS x.1) (fun x => (same x.1 x.2.1, ())) (fun x => smS x.1) (fun x => (spcsOk x.1, ())) (fun x => smS x.1) (fun x => (spcsOk x.1, ())) (fun _ => (true, ())) (fun x => (same x.1 x.2.1, ())) (fun x => decide (List.length x.1 ≤ 4294967296)) (fun x => (spcNow x.1, ())) (fun x => decide (List.length x.1 ≤ 4294967296)) (x.1, ()) (j + k) [false, true, false, true, true, true, true, true, true, true] (h0_lFnSpcRaise x.1 l n (i : Int) y)) _ (fun _ _ => True) (List.length l) (fun k s hs => ?_) (fun k i s hi hs next => ?_) (List.length l) 0 () (by omega) trivial
    · show Gets (r_lFnSpcRaise _ _ _ _ _ _ _ _ _ _ _ _ _ _ _ _ (x.1, ()) (j + k + 1) [false, true, false, true, true, true, true, true, true, true] (h0_lFnSpcRaise x.1 l n ((List.length l : Nat) : Int) y)) _
      rw [rd0_lFnSpcRaise, lt_false (Nat.le_refl _), cond_false]
      have hy : decide (List.length y ≤ 4294967296) = true := decide_eq_true (by omega)
      refine gets_cl hz (gets_cl hy ?_)
      show Gets (bif decide (spcNow y = n) then (bif (bif decide ((0 : Int) ≤ n) then decide (n < (List.length l : Int)) else false) then (bif decide ((rdL (e := S_SpcSpec) l n).2 = 1) then _ else _) else none) else _) _
      rw [r6, decide_eq_true rfl, cond_true, decide_eq_true r1, decide_eq_true (show n < (List.length l : Int) by omega), rd_spc, decide_eq_true r3]
      refine gets_need rfl ?_
      rw [cond_true]
      refine gets_cl hz ?_
      show Gets (bif spcsOk y then (bif (bif (spcRaise y n).2 then false else true) then _ else _) else _) _
      rw [r5, cond_true]
      refine gets_both (fun _ => ?_) fun h => by rw [r7] at h; cases h
      refine gets_cl (show smS (spcRaise y n).1 = true by rw [r7]; exact hz) ?_
      show Gets (some (same (spcRaise y n).1 y, ())) _
      rw [r7, same_self]
      exact gets_some rfl
    · show Gets (r_lFnSpcRaise _ _ _ _ _ _ _ _ _ _ _ _ _ _ _ _ (x.1, ()) (j + k + 1) [false, true, false, true, true, true, true, true, true, true] (h0_lFnSpcRaise x.1 l n (i : Int) y)) _
      obtain ⟨s', h1, h2, h3⟩ := r8 i hi
      have hiy : i < List.length y := by omega
      have hys : y[i] = s' := by rw [List.getElem?_eq_getElem hiy] at h1; injection h1
      rw [rd0_lFnSpcRaise, in_true hi, in_true hiy, lt_true hi, w_succ (by omega), rdL_at hi, rdL_at hiy, hys]
      rw [cond_true]
      refine gets_need rfl (gets_need rfl (gets_need rfl (gets_need rfl (gets_cl (decide_eq_true (by have := hl.2 _ (List.getElem_mem hi); rw [← h2] at this; show List.length s'.1 ≤ 4294967296; omega)) ?_))))
      show Gets (bif (bif same s'.1 l[i].1 then false else true) then _ else _) _
      rw [h2, same_self]
      refine gets_both (fun h => by cases h) fun _ => gets_both (fun hne => ?_) fun _ => next () trivial
      refine gets_both (fun hst => ?_) fun _ => next () trivial
      have g1 : (i : Int) ≠ n := by
        intro e
        have hne : (bif decide ((i : Int) = n) then false else true) = true := hne
        rw [decide_eq_true e] at hne; cases hne
      have g2 : s'.2 ≠ l[i].2 := by
        intro e
        have hst : (bif decide (l[i].2 = s'.2) then false else true) = true := hst
        rw [decide_eq_true e.symm] at hst; cases hst
      obtain ⟨g3, g4⟩ := h3 g1 g2
      refine gets_both (fun h => ?_) fun _ => gets_both (fun h => ?_) fun _ => next () trivial
      · have h : (bif decide (l[i].2 = 2) then false else true) = true := h
        rw [decide_eq_true g3] at h; cases h
      · have h : (bif decide (s'.2 = 3) then false else true) = true := h
        rw [decide_eq_true g4] at h; cases h)⟩

end Go.Proofs.Ytkjimaolpijoiaa
