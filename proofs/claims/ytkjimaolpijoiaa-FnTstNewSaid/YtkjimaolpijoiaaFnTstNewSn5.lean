/- The contracts: tests. -/
import Derived.Test.YtkjimaolpijoiaaFnTstNewSn4
set_option linter.unusedVariables false
set_option linter.unusedSimpArgs false
namespace Go.Proofs.Ytkjimaolpijoiaa
open Go.Vm

theorem beq_dec (a b : MDec) : Sh.beq S_DecDec a b = same a b := by
  show (decide (a.1 = b.1) && decide (a.2 = b.2)) = _
  rw [same_int, same_int, same_pair]

theorem s_idecsOk_c1 : C_idecsOk_c1 (fun _ => true) (fun x => (!decOk x.1, ())) := S_idecsOk_c1 s_iDecOk fun x _ => ⟨0, (ev_idecsOk_c1 0 x.1).trans (by simp only [bif_not])⟩
theorem s_gIndexFunc_DecDec__idecsOk_c1 : C_gIndexFunc_DecDec__idecsOk_c1 (fun x => decide (List.length x.1 ≤ 4294967296)) (fun x => (idxOf (fun d => !decOk d) x.1 0, ())) := S_gIndexFunc_DecDec__idecsOk_c1 s_idecsOk_c1 fun x hx => ⟨List.length x.1 + 1, (ev_gIndexFunc_DecDec__idecsOk_c1 _ x.1 x.2.1).trans (by
  have hx : List.length x.1 ≤ 4294967296 := of_decide_eq_true hx
  refine idx_loop (α := MDec) x.1 (fun d => !decOk d) (fun k i => r_gIndexFunc_DecDec__idecsOk_c1 (fun x => (!decOk x.1, ())) (x.1, x.2.1, ()) k [false, true, false, true] (h0_gIndexFunc_DecDec__idecsOk_c1 x.1 x.2.1 (List.length x.1 : Int) (i : Int))) (fun k => ?_) (fun k i y r hd hi => ?_)
  · rw [rd0_gIndexFunc_DecDec__idecsOk_c1, lt_false (Nat.le_refl _)]; rfl
  · rw [rd0_gIndexFunc_DecDec__idecsOk_c1, in_true hi, lt_true hi, w_succ (by omega), rdL_drop hd]; rfl)⟩
theorem s_gContainsFunc_DecDec__idecsOk_c1 : C_gContainsFunc_DecDec__idecsOk_c1 (fun x => decide (List.length x.1 ≤ 4294967296)) (fun x => (List.any x.1 (fun d => !decOk d), ())) := S_gContainsFunc_DecDec__idecsOk_c1 s_gIndexFunc_DecDec__idecsOk_c1 fun x hx => ⟨0, (ev_gContainsFunc_DecDec__idecsOk_c1 0 x.1 x.2.1).trans (by
  have hx : decide (List.length x.1 ≤ 4294967296) = true := hx
  simp only [hx, cond_true, idxOf_any])⟩
theorem s_idecsOk : C_idecsOk (fun x => decide (List.length x.1 ≤ 4294967296)) (fun x => (List.all x.1 decOk, ())) := S_idecsOk s_gContainsFunc_DecDec__idecsOk_c1 fun x hx => ⟨0, (ev_idecsOk 0 x.1).trans (by
  have hx : decide (List.length x.1 ≤ 4294967296) = true := hx
  simp only [hx, cond_true, bif_not, not_any_not])⟩

theorem s_iTstNeed : C_iTstNeed (fun _ => true) (fun x => (need x.1, ())) := S_iTstNeed fun x _ => ⟨0, (ev_iTstNeed 0 x.1).trans (by
  have key : ∀ c : Int, (bif (decide (c = (1 : Int))) then (some ((1 : Int), ())) else (bif (decide (c = (2 : Int))) then (some ((2 : Int), ())) else (some ((0 : Int), ())))) = some (need c, ()) := fun c => by
    unfold need
    by_cases h1 : c = 1
    · rw [decide_eq_true h1, if_pos h1]; rfl
    · rw [decide_eq_false h1, if_neg h1]
      by_cases h2 : c = 2
      · rw [decide_eq_true h2, if_pos h2]; rfl
      · rw [decide_eq_false h2, if_neg h2]; rfl
  exact key x.1)⟩
theorem s_sTstNeed : C_sTstNeed (fun _ => true) (fun x => (need x.1, ())) := S_sTstNeed fun x _ => ⟨0, (ev_sTstNeed 0 x.1).trans (by
  have key : ∀ c : Int, (bif (decide (c = (1 : Int))) then (some ((1 : Int), ())) else (bif (decide (c = (2 : Int))) then (some ((2 : Int), ())) else (some ((0 : Int), ())))) = some (need c, ()) := fun c => by
    unfold need
    by_cases h1 : c = 1
    · rw [decide_eq_true h1, if_pos h1]; rfl
    · rw [decide_eq_false h1, if_neg h1]
      by_cases h2 : c = 2
      · rw [decide_eq_true h2, if_pos h2]; rfl
      · rw [decide_eq_false h2, if_neg h2]; rfl
  exact key x.1)⟩

theorem p_iDecMean (l : List MDec) (p : Int) (hl : inq l.length 1 100 = true) (ho : l.all decOk = true) (hp : inq p 0 3 = true) :
    r_iDecMean (fun x => (inq x.1 x.2.1 x.2.2.1, ())) (fun x => (List.all x.1 decOk, ())) (fun x => decide (List.length x.1 ≤ 4294967296)) (fun x => (decAt x.1 x.2.1, ())) (fun x => (pw x.1, ())) (fun x => decide (x.1 ≤ 18)) (fun x => (near x.1 x.2.1, ())) (fun x => nrPre x.1 x.2.1) (l, p, ()) (l.length + 1) [false, true, false, true, true, true] (h0_iDecMean l p 0 (l.length : Int) ((0 : Nat) : Int) (0, 0)) = some (decMean l p, ()) := by
  obtain ⟨h1, h2⟩ := inq_iff.1 hl
  obtain ⟨h3, h4⟩ := inq_iff.1 hp
  have := sum_loop l (by omega) (fun c => (near (c * pw p) ((l.length : Int) * pw 3), p)) (fun k i c => r_iDecMean (fun x => (inq x.1 x.2.1 x.2.2.1, ())) (fun x => (List.all x.1 decOk, ())) (fun x => decide (List.length x.1 ≤ 4294967296)) (fun x => (decAt x.1 x.2.1, ())) (fun x => (pw x.1, ())) (fun x => decide (x.1 ≤ 18)) (fun x => (near x.1 x.2.1, ())) (fun x => nrPre x.1 x.2.1) (l, p, ()) k [false, true, false, true, true, true] (h0_iDecMean l p c (l.length : Int) (i : Int) (0, 0))) (fun k c b1 b2 => ?_) (fun k i x r c hd hi b1 b2 => ?_)
  · refine this.trans ?_
    rw [ho]
    unfold decMean
    rw [hl, ho, hp, mean_near hl hp]; rfl
  · have hpw := pw_le h4
    have hpp := pw_pos p
    have p3 : pw 3 = 1000 := rfl
    have hpc : c * pw p ≤ 999900000000 ∧ -999900000000 ≤ c * pw p := by
      rcases pw_cases h4 with e | e | e | e <;> rw [e] <;> omega
    rw [rd0_iDecMean, lt_false (Nat.le_refl _)]
    simp only [cond_false, p3]
    rw [decide_eq_true (show p ≤ 18 by omega), w64_eq (x := c * pw p) (by omega) (by omega), w64_eq (x := (l.length : Int) * 1000) (by omega) (by omega)]
    have hn : nrPre (c * pw p) ((l.length : Int) * 1000) = true := nrPre_iff.2 ⟨⟨by omega, by omega⟩, by omega, by omega⟩
    rw [hn]; rfl
  · have hx : decOk x = true := List.all_eq_true.1 ho x (mem_drop hd)
    have hb := at3_bound hx
    rw [rd0_iDecMean, in_true hi, lt_true hi, w_succ (by omega), rdL_drop hd, hx]
    have e : decAt x 3 = atR x 3 := by unfold decAt; rw [hx]; rfl
    simp only [e, cond_true]
    rw [w64_eq (by omega) (by omega)]
theorem s_iDecMean : C_iDecMean (fun x => decide (List.length x.1 ≤ 4294967296)) (fun x => (decMean x.1 x.2.1, ())) := S_iDecMean s_iin s_idecsOk s_iDecAt s_ipower s_inearest fun x hx => ⟨List.length x.1 + 1, (ev_iDecMean _ x.1 x.2.1).trans (by
  have hx : decide (List.length x.1 ≤ 4294967296) = true := hx
  simp only [hx, cond_true]
  cases hl : inq (List.length x.1) 1 100
  · unfold decMean; rw [hl]; rfl
  · cases ho : List.all x.1 decOk
    · unfold decMean; rw [hl, ho]; rfl
    · cases hp : inq x.2.1 0 3
      · unfold decMean; rw [hl, ho, hp]; rfl
      · exact p_iDecMean x.1 x.2.1 hl ho hp)⟩
end Go.Proofs.Ytkjimaolpijoiaa
