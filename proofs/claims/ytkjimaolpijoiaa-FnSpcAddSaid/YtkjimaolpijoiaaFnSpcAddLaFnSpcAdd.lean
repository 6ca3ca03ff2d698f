/- A draft comes behind all. -/
import Derived.Test.YtkjimaolpijoiaaFnSpcAddSn11
set_option linter.unusedVariables false
set_option linter.unusedSimpArgs false
namespace Go.Proofs.Ytkjimaolpijoiaa
open Go.Vm
theorem s_lFnSpcAdd : C_lFnSpcAdd (lawPre _) (fun _ => (true, ())) := S_lFnSpcAdd s_sDrawSpcAdd s_iSpcAdd s_sSpcAdd s_lcuSpecs s_sSpcOk s_sSpcTestsOk s_lcuOk s_lcuTests s_iSpcNow s_iSpcOk fun x hx => ⟨0, (ev_lFnSpcAdd 0 x.1).trans (by
  have hb : bytesB x.1 = true := bytes_of (lawPre_iff.1 hx).1.2
  have hd := c_sDrawSpcAdd (x.1, ()) hb
  refine gets_true (gets_both (fun _ => gets_some rfl) fun _ => gets_cl hb ?_)
  generalize d_sDrawSpcAdd (x.1, ()) = D at hd ⊢
  obtain ⟨l, t, u⟩ := D
  have hl : SpQ l := hd.1
  have ht : List.length t ≤ 5 := hd.2.2
  have hp : (smS l && smA t) = true := by rw [hl.sm, smA_of ht]; rfl
  have ha := SpI.add hl ht
  have hz : smS (spcAdd l t).1 = true := ha.sm (by decide)
  have hlen : List.length l ≤ 4 := hl.1
  refine gets_cl hp (gets_cl hp (gets_cl hz ?_))
  show Gets (bif (bif same (spcAdd l t).1 (spcAdd l t).1 then false else true) then _ else (bif (bif ((spcAdd l t).2 == (spcAdd l t).2) then false else true) then _ else (bif (bif (spcAdd l t).2 then false else true) then _ else _))) _
  rw [same_self, beq_self_eq_true]
  refine gets_both (fun h => by cases h) fun _ => gets_both (fun h => by cases h) fun _ => ?_
  cases hc : (spcsOk l && (testsOk t && !decide (l.length = 6)))
  · have e1 : spcAdd l t = (l, false) := by unfold spcAdd; rw [hc]; rfl
    rw [e1] at hz ⊢
    refine gets_both (fun _ => gets_cl hz ?_) fun h => by cases h
    show Gets (bif same l l then (bif (bif spcsOk l then false else true) then some (true, ()) else (bif (bif testsOk t then false else true) then some (true, ()) else (bif (decide ((List.length l : Int) = (6 : Int))) then some (true, ()) else some (false, ())))) else _) _
    rw [same_self, cond_true]
    have h6 : decide (l.length = 6) = false := decide_eq_false (by omega)
    rw [h6] at hc
    cases h1 : spcsOk l
    · exact gets_some rfl
    · rw [h1] at hc
      cases h2 : testsOk t
      · exact gets_some rfl
      · rw [h2] at hc; cases hc
  · have e1 : spcAdd l t = (l ++ [(t, 1)], true) := by unfold spcAdd; rw [hc]; rfl
    simp only [Bool.and_eq_true] at hc
    have h1 : spcsOk l = true := hc.1
    have h2 : testsOk t = true := hc.2.1
    rw [e1] at hz ⊢
    refine gets_both (fun h => by cases h) fun _ => ?_
    have hL : List.length (l ++ [((t, 1) : MSpc)]) = List.length l + 1 := by rw [List.length_append]; rfl
    show Gets (bif decide ((List.length (l ++ [((t, 1) : MSpc)]) : Int) = w64 ((List.length l : Int) + 1)) then (bif (bif decide ((0 : Int) ≤ (List.length l : Int)) then decide ((List.length l : Int) ≤ (List.length (l ++ [((t, 1) : MSpc)]) : Int)) else false) then _ else none) else _) _
    rw [hL, w_succ (by omega), decide_eq_true rfl]
    rw [cond_true]
    refine gets_need (by rw [decide_eq_true (show (0 : Int) ≤ (List.length l : Int) by omega)]; exact decide_eq_true (by omega)) ?_
    have htk : takeI (l ++ [((t, 1) : MSpc)]) (List.length l : Int) = l := by
      show List.take (Int.toNat (List.length l : Int)) (l ++ [_]) = l
      rw [Int.toNat_natCast, List.take_left']
      rfl
    have hrd : rdL (e := S_SpcSpec) (l ++ [((t, 1) : MSpc)]) (List.length l : Int) = (t, 1) := by
      refine rdL_drop (r := []) ?_
      rw [List.drop_left']
      rfl
    have hin : (bif decide ((0 : Int) ≤ (List.length l : Int)) then decide ((List.length l : Int) < ((List.length l + 1 : Nat) : Int)) else false) = true := by
      rw [decide_eq_true (show (0 : Int) ≤ (List.length l : Int) by omega)]; exact decide_eq_true (by omega)
    have hn : spcNow (l ++ [((t, 1) : MSpc)]) = spcNow l := idxOf_snoc rfl l 0
    have hok : spcsOk (l ++ [((t, 1) : MSpc)]) = true := spcsOk_add h1 h2 (by omega)
    refine gets_cl (show smS (takeI (l ++ [((t, 1) : MSpc)]) (List.length l : Int)) = true by rw [htk]; exact hl.sm) ?_
    show Gets (bif same (takeI (l ++ [((t, 1) : MSpc)]) (List.length l : Int)) l then (bif (bif decide ((0 : Int) ≤ (List.length l : Int)) then decide ((List.length l : Int) < ((List.length l + 1 : Nat) : Int)) else false) then (bif decide ((rdL (e := S_SpcSpec) (l ++ [((t, 1) : MSpc)]) (List.length l : Int)).2 = (1 : Int)) then _ else _) else none) else _) _
    rw [htk, same_self, cond_true, hrd]
    refine gets_need hin ?_
    rw [decide_eq_true (show ((t, (1 : Int)) : MSpc).2 = 1 from rfl), cond_true]
    refine gets_need hin ?_
    refine gets_cl (show decide (List.length t ≤ 4294967296) = true from decide_eq_true (by omega)) ?_
    show Gets (bif same t t then _ else _) _
    rw [same_self, cond_true]
    refine gets_cl (decide_eq_true (show List.length l + 1 ≤ 4294967296 by omega)) (gets_cl (decide_eq_true (show List.length l ≤ 4294967296 by omega)) ?_)
    show Gets (bif decide (spcNow (l ++ [((t, 1) : MSpc)]) = spcNow l) then _ else _) _
    rw [hn, decide_eq_true rfl, cond_true]
    refine gets_cl hz ?_
    show Gets (some (spcsOk (l ++ [((t, 1) : MSpc)]), ())) _
    rw [hok]
    exact gets_some rfl)⟩

end Go.Proofs.Ytkjimaolpijoiaa
