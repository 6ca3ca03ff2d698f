/- The contracts: tests, their states. -/
import Derived.Test.YtkjimaolpijoiaaFnTstNewSn5
set_option linter.unusedVariables false
set_option linter.unusedSimpArgs false
namespace Go.Proofs.Ytkjimaolpijoiaa
open Go.Vm

theorem rdLmore {l : List MDec} (h : l ≠ []) : rdL (e := S_DecDec) l (0 : Int) = l.getD 0 (0, 0) := rfl
theorem head_ok {l : List MDec} (h : l ≠ []) (ho : l.all decOk = true) : decOk (l.getD 0 (0, 0)) = true := by
  cases l with
  | nil => exact absurd rfl h
  | cons d r => exact List.all_eq_true.1 ho d List.mem_cons_self
theorem tlPre_iff {t : MTst} : tlPre t = true ↔ tsPre t = true ∧ (t.2.2.2.1 = 1 → t.2.2.2.2 ≠ []) := by
  unfold tlPre
  simp only [Bool.and_eq_true, Bool.or_eq_true, Bool.not_eq_true', decide_eq_false_iff_not, List.isEmpty_eq_false_iff]
  exact ⟨fun h => ⟨h.1, fun e => h.2.resolve_left (fun hn => hn e)⟩, fun h => ⟨h.1, Classical.or_iff_not_imp_left.2 fun hn => h.2 (Classical.not_not.1 hn)⟩⟩
theorem in0_ne {l : List MDec} (h : l ≠ []) : (bif (decide ((0 : Int) ≤ (0 : Int))) then (decide ((0 : Int) < (l.length : Int))) else false) = true := by
  have : 0 < l.length := List.length_pos_iff.2 h
  exact in_true (i := 0) this

theorem p_tell {t : MTst} (h : tlPre t = true) (A B C : Option (MDec × Unit)) (hA : t.2.2.2.2 ≠ [] → A = some (decAt (t.2.2.2.2.getD 0 (0, 0)) t.1.2.2.2, ())) (hB : B = some (decMean (t.2.2.1 :: t.2.2.2.2) t.1.2.2.2, ())) (hC : C = some (decAt t.2.2.1 t.1.2.2.2, ())) :
    (bif (decide (t.2.2.2.1 = (1 : Int))) then (bif (bif (decide ((0 : Int) ≤ (0 : Int))) then (decide ((0 : Int) < (t.2.2.2.2.length : Int))) else false) then A else none) else (bif (decide (t.2.2.2.1 = (2 : Int))) then (bif (fitL [t.2.2.1] t.2.2.2.2) then B else none) else C)) = some (tell t, ()) := by
  obtain ⟨h1, h2⟩ := tlPre_iff.1 h
  obtain ⟨_, _, _, h3⟩ := tsPre_iff.1 h1
  unfold tell
  by_cases c1 : t.2.2.2.1 = 1
  · rw [decide_eq_true c1, if_pos c1, in0_ne (h2 c1), hA (h2 c1)]; rfl
  · rw [decide_eq_false c1, if_neg c1]
    by_cases c2 : t.2.2.2.1 = 2
    · rw [decide_eq_true c2, if_pos c2, fitL_eq (by simp; omega), hB]; rfl
    · rw [decide_eq_false c2, if_neg c2, hC]; rfl

theorem s_iTstTest_counts : C_iTstTest_counts (fun x => tlPre x.1) (fun x => (tell x.1, ())) := S_iTstTest_counts s_iDecAt s_iDecMean fun x hx => ⟨0, (ev_iTstTest_counts 0 x.1).trans (by
  have hx : tlPre x.1 = true := hx
  obtain ⟨_, _, _, h3⟩ := tsPre_iff.1 (tlPre_iff.1 hx).1
  refine p_tell hx _ _ _ (fun _ => rfl) ?_ rfl
  have : decide (List.length (List.append [x.1.2.2.1] x.1.2.2.2.2) ≤ 4294967296) = true := decide_eq_true (by
    show (x.1.2.2.1 :: x.1.2.2.2.2).length ≤ _
    rw [List.length_cons]; exact Nat.le_trans (Nat.succ_le_succ h3) (by decide))
  rw [this]; rfl)⟩
theorem s_iTstTest_told_c1 : C_iTstTest_told_c1 (fun _ => true) (fun x => (!spcIn x.2.1.1 x.1, ())) := S_iTstTest_told_c1 s_iSpcIn fun x _ => ⟨0, (ev_iTstTest_told_c1 0 x.1 x.2.1).trans (by simp only [bif_not])⟩
theorem s_gIndexFunc_DecDec__iTstTest_told_c1 : C_gIndexFunc_DecDec__iTstTest_told_c1 (fun x => decide (List.length x.1 ≤ 4294967296)) (fun x => (idxOf (fun d => !spcIn x.2.1.1.1 d) x.1 0, ())) := S_gIndexFunc_DecDec__iTstTest_told_c1 s_iTstTest_told_c1 fun x hx => ⟨List.length x.1 + 1, (ev_gIndexFunc_DecDec__iTstTest_told_c1 _ x.1 x.2.1).trans (by
  have hx : List.length x.1 ≤ 4294967296 := of_decide_eq_true hx
  refine idx_loop (α := MDec) x.1 (fun d => !spcIn x.2.1.1.1 d) (fun k i => r_gIndexFunc_DecDec__iTstTest_told_c1 (fun x => (!spcIn x.2.1.1 x.1, ())) (x.1, x.2.1, ()) k [false, true, false, true] (h0_gIndexFunc_DecDec__iTstTest_told_c1 x.1 x.2.1 (List.length x.1 : Int) (i : Int))) (fun k => ?_) (fun k i y r hd hi => ?_)
  · rw [rd0_gIndexFunc_DecDec__iTstTest_told_c1, lt_false (Nat.le_refl _)]; rfl
  · rw [rd0_gIndexFunc_DecDec__iTstTest_told_c1, in_true hi, lt_true hi, w_succ (by omega), rdL_drop hd]; rfl)⟩
theorem s_gContainsFunc_DecDec__iTstTest_told_c1 : C_gContainsFunc_DecDec__iTstTest_told_c1 (fun x => decide (List.length x.1 ≤ 4294967296)) (fun x => (List.any x.1 (fun d => !spcIn x.2.1.1.1 d), ())) := S_gContainsFunc_DecDec__iTstTest_told_c1 s_gIndexFunc_DecDec__iTstTest_told_c1 fun x hx => ⟨0, (ev_gContainsFunc_DecDec__iTstTest_told_c1 0 x.1 x.2.1).trans (by
  have hx : decide (List.length x.1 ≤ 4294967296) = true := hx
  simp only [hx, cond_true, idxOf_any])⟩

theorem tl_of {t : MTst} (h : tsPre t = true) (hn : ¬ (t.2.2.2.2.length : Int) < need t.2.2.2.1) : tlPre t = true := by
  refine tlPre_iff.2 ⟨h, fun e hne => ?_⟩
  rw [hne, e] at hn
  exact hn (by decide)

theorem p_state {t : MTst} (A : Option (Int × Unit)) (h3 : t.2.2.2.1 ≠ 3) (hA : ¬ (t.2.2.2.2.length : Int) < need t.2.2.2.1 → A = some (if passes t = true then 3 else 4, ())) (h0 : t.2.2.2.1 ≠ 0) :
    (bif (decide ((t.2.2.2.2.length : Int) < need t.2.2.2.1)) then (some ((2 : Int), ())) else A) = some (stateOf t, ()) := by
  unfold stateOf
  rw [if_neg h0, if_neg h3]
  by_cases hn : (t.2.2.2.2.length : Int) < need t.2.2.2.1
  · rw [decide_eq_true hn, if_pos hn]; rfl
  · rw [decide_eq_false hn, if_neg hn, hA hn]; rfl

theorem s_iTstTest_told : C_iTstTest_told (fun x => tsPre x.1) (fun x => (stateOf x.1, ())) := S_iTstTest_told s_iSpcIn s_iTstNeed s_iTstTest_counts s_gContainsFunc_DecDec__iTstTest_told_c1 fun x hx => ⟨0, (ev_iTstTest_told 0 x.1).trans (by
  have key : ∀ t : MTst, tsPre t = true → t.2.2.2.1 ≠ 0 → (bif (decide ((t.2.2.2.2.length : Int) < need t.2.2.2.1)) then (some ((2 : Int), ())) else (bif (bif (decide (t.2.2.2.1 = (3 : Int))) then false else true) then (bif tlPre t then (bif spcIn t.1 (tell t) then (bif decide (t.2.2.2.2.length ≤ 4294967296) then (bif (bif (t.2.2.2.2.any fun d => !spcIn t.1 d) then false else true) then (some ((3 : Int), ())) else (some ((4 : Int), ()))) else none) else (some ((4 : Int), ()))) else none) else (some ((4 : Int), ())))) = some (stateOf t, ()) := fun t ht h0 => by
    obtain ⟨_, _, _, h3⟩ := tsPre_iff.1 ht
    by_cases c3 : t.2.2.2.1 = 3
    · have hn : ¬ (t.2.2.2.2.length : Int) < need t.2.2.2.1 := by rw [c3]; unfold need; simp
      unfold stateOf
      rw [if_neg h0, if_pos c3, decide_eq_false hn, decide_eq_true c3]; rfl
    · refine p_state _ c3 (fun hn => ?_) h0
      rw [decide_eq_false c3, tl_of ht hn, decide_eq_true (show t.2.2.2.2.length ≤ 4294967296 by omega)]
      simp only [bif_not, not_any_not, cond_true]
      unfold passes
      cases spcIn t.1 (tell t) <;> cases t.2.2.2.2.all (spcIn t.1) <;> rfl
  have hx : tsPre x.1 = true := hx
  by_cases h0 : x.1.2.2.2.1 = 0
  · unfold stateOf
    rw [if_pos h0]
    simp only [decide_eq_true h0]
    cases spcIn x.1.1 x.1.2.2.1 <;> rfl
  · have := key x.1 hx h0
    simp only [decide_eq_false h0, cond_false]
    exact this)⟩

theorem p_okB (t : MTst) (A : Option (Bool × Unit)) (hA : t.2.1 ≠ 0 → A = some (decide (t.2.1 = stateOf t) && (decide (t.2.2.2.1 = 0) || !spcIn t.1 t.2.2.1), ())) :
    (bif (decide (t.2.1 = (0 : Int))) then (bif (Sh.beq S_DecDec t.2.2.1 ((0 : Int), (0 : Int))) then (some ((decide (t.2.2.2.1 = (0 : Int))), ())) else (some (false, ()))) else A) = some (tstOkB t, ()) := by
  rw [beq_dec]
  unfold tstOkB
  by_cases h : t.2.1 = 0
  · rw [decide_eq_true h]
    cases same t.2.2.1 ((0 : Int), (0 : Int)) <;> rfl
  · rw [decide_eq_false h, hA h]; rfl
theorem p_okB2 (t : MTst) : (bif (decide (t.2.1 = stateOf t)) then (bif (decide (t.2.2.2.1 = (0 : Int))) then (some (true, ())) else (some ((bif spcIn t.1 t.2.2.1 then false else true), ()))) else (some (false, ()))) = some (decide (t.2.1 = stateOf t) && (decide (t.2.2.2.1 = 0) || !spcIn t.1 t.2.2.1), ()) := by
  cases decide (t.2.1 = stateOf t) <;> cases decide (t.2.2.2.1 = 0) <;> cases spcIn t.1 t.2.2.1 <;> rfl
theorem s_iTstOk : C_iTstOk (fun x => decide (List.length x.1.2.2.2.2 ≤ 4294967296)) (fun x => (tstOk x.1, ())) := S_iTstOk s_iSpcTest_ok s_iDecOk s_idecsOk s_iin s_iTstNeed s_iTstTest_told s_iSpcIn fun x hx => ⟨0, (ev_iTstOk 0 x.1).trans (by
  have hx : decide (List.length x.1.2.2.2.2 ≤ 4294967296) = true := hx
  simp only [hx, cond_true]
  unfold tstOk
  cases hA : tstOkA x.1
  · have hA' := hA
    unfold tstOkA at hA'
    cases h1 : askOk x.1.1
    · rfl
    · cases h2 : decOk x.1.2.2.1
      · rfl
      · cases h3 : List.all x.1.2.2.2.2 decOk
        · rfl
        · cases h4 : inq x.1.2.2.2.1 0 3
          · rfl
          · rw [h1, h2, h3, h4] at hA'
            have h5 : need x.1.2.2.2.1 < (List.length x.1.2.2.2.2 : Int) := Int.not_le.1 (of_decide_eq_false hA')
            simp only [cond_false, decide_eq_true h5]; rfl
  · have hp := tsPre_of hA
    unfold tstOkA at hA
    simp only [Bool.and_eq_true, decide_eq_true_eq] at hA
    obtain ⟨h1, h2, h3, h4, h5⟩ := hA
    simp only [h1, h2, h3, h4, decide_eq_false (Int.not_lt.2 h5), cond_true, cond_false, Bool.true_and]
    refine p_okB x.1 _ fun hs => ?_
    simp only [hp, cond_true]
    exact p_okB2 x.1)⟩
theorem p_tstTell (t : MTst) (A : Option (MDec × Bool × Unit)) (hA : tstOk t = true → (t.2.1 = 3 ∨ t.2.1 = 4) → A = some (tell t, true, ())) :
    (bif (bif tstOk t then false else true) then (some (((0 : Int), (0 : Int)), (false, ()))) else (bif (bif (decide (t.2.1 = (3 : Int))) then false else true) then (bif (bif (decide (t.2.1 = (4 : Int))) then false else true) then (some (((0 : Int), (0 : Int)), (false, ()))) else A) else A)) =
    some (bif tstOk t && (decide (t.2.1 = 3) || decide (t.2.1 = 4)) then (tell t, true, ()) else ((0, 0), false, ())) := by
  cases h : tstOk t
  · rfl
  · by_cases h3 : t.2.1 = 3
    · rw [decide_eq_true h3, hA h (.inl h3)]; rfl
    · by_cases h4 : t.2.1 = 4
      · rw [decide_eq_true h4, decide_eq_false h3, hA h (.inr h4)]; rfl
      · rw [decide_eq_false h4, decide_eq_false h3]; rfl
/-- A test that is settled can be told. -/
theorem settled_tl {t : MTst} (h : tstOk t = true) (hs : t.2.1 = 3 ∨ t.2.1 = 4) : tlPre t = true := by
  unfold tstOk at h
  obtain ⟨hA, hB⟩ := Bool.and_eq_true_iff.1 h
  have hp := tsPre_of hA
  have h0 : t.2.1 ≠ 0 := by omega
  unfold tstOkB at hB
  rw [decide_eq_false h0, cond_false, Bool.and_eq_true] at hB
  have he : t.2.1 = stateOf t := of_decide_eq_true hB.1
  refine tlPre_iff.2 ⟨hp, fun c1 hne => ?_⟩
  unfold stateOf at he
  rw [c1, hne] at he
  simp only [List.length_nil, if_neg (show ¬ (1 : Int) = 0 by decide), if_neg (show ¬ (1 : Int) = 3 by decide), need, if_true] at he
  rw [if_pos (by decide)] at he
  omega
theorem s_iTstTell : C_iTstTell (fun x => decide (List.length x.1.2.2.2.2 ≤ 4294967296)) (fun x => bif tstOk x.1 && (decide (x.1.2.1 = 3) || decide (x.1.2.1 = 4)) then (tell x.1, true, ()) else ((0, 0), false, ())) := S_iTstTell s_iTstOk s_iTstTest_counts fun x hx => ⟨0, (ev_iTstTell 0 x.1).trans (by
  have hx : decide (List.length x.1.2.2.2.2 ≤ 4294967296) = true := hx
  simp only [hx, cond_true]
  exact p_tstTell x.1 _ fun h hs => by simp only [settled_tl h hs, cond_true])⟩
end Go.Proofs.Ytkjimaolpijoiaa
