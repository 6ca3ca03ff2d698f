/- The functions that FnTstMore reaches: what each of them answers, part 1. Conditions stand in each contract. -/
import Derived.Test.YtijolcgmciclhaaFnTstMoreEq0
import Derived.Test.YtijolcgmciclhaaMoA
set_option linter.unusedVariables false
set_option linter.unusedSimpArgs false
namespace Go.Proofs.Ytijolcgmciclhaa
open Go.Vm

theorem s_iin : C_iin (fun _ => true) (fun x => (inq x.1 x.2.1 x.2.2.1, ())) := S_iin fun x _ => ⟨0, (ev_iin 0 x.1 x.2.1 x.2.2.1).trans (by
  simp only [bif_some, bif_pair, bif_and]; rfl)⟩
theorem s_sl1In : C_sl1In (fun _ => true) (fun x => (inq x.1 x.2.1 x.2.2.1, ())) := S_sl1In fun x _ => ⟨0, (ev_sl1In 0 x.1 x.2.1 x.2.2.1).trans (by
  simp only [bif_some, bif_pair, bif_and]; rfl)⟩

/-- Ten, so many times. -/
theorem pw_step {i : Nat} (h : i < 18) : w64 ((10 : Int) ^ i * (10 : Int)) = 10 ^ (i + 1) := by
  have : (10 : Int) ^ (i + 1) ≤ 10 ^ 18 := by exact_mod_cast Nat.pow_le_pow_right (by decide) (by omega)
  have h2 : (0 : Int) < 10 ^ (i + 1) := Int.pow_pos (by decide)
  rw [← Int.pow_succ, w64_eq (by omega) (by omega)]

theorem p_ipower (n : Int) (hn : n ≤ 18) : r_ipower (n, ()) (n.toNat + 1) [false, true, false, true, true] (h0_ipower n (1 : Int) (0 : Int)) = some (pw n, ()) := by
  by_cases h0 : n ≤ 0
  · have : n.toNat = 0 := by omega
    rw [this, rd0_ipower]
    have : decide ((0 : Int) < n) = false := decide_eq_false (by omega)
    rw [this]
    show some ((1 : Int), ()) = _
    unfold pw
    rw [show n.toNat = 0 by omega]; rfl
  · have hc : (n.toNat : Int) = n := by omega
    refine count_loop (σ := Unit) n.toNat (fun k i _ => r_ipower (n, ()) k [false, true, false, true, true] (h0_ipower n ((10 : Int) ^ i) (i : Int))) (fun _ _ => (pw n, ())) (fun _ _ => True) (fun k s _ => ?_) (fun k i s hi _ => ?_) n.toNat 0 () (by omega) trivial
    · rw [rd0_ipower, show decide ((n.toNat : Int) < n) = false from decide_eq_false (by omega)]
      rfl
    · refine .inr ⟨(), trivial, ?_, rfl⟩
      rw [rd0_ipower, show decide ((i : Int) < n) = true from decide_eq_true (by omega), pw_step (by omega), w_succ (by omega)]
      rfl
theorem s_ipower : C_ipower (fun x => decide (x.1 ≤ 18)) (fun x => (pw x.1, ())) := S_ipower fun x hx => ⟨_, (ev_ipower _ x.1).trans (p_ipower x.1 (of_decide_eq_true hx))⟩
theorem p_sl1Ten (n : Int) (hn : n ≤ 18) : r_sl1Ten (n, ()) (n.toNat + 1) [false, true, false, true, true] (h0_sl1Ten n (1 : Int) (0 : Int)) = some (pw n, ()) := by
  by_cases h0 : n ≤ 0
  · have : n.toNat = 0 := by omega
    rw [this, rd0_sl1Ten]
    have : decide ((0 : Int) < n) = false := decide_eq_false (by omega)
    rw [this]
    show some ((1 : Int), ()) = _
    unfold pw
    rw [show n.toNat = 0 by omega]; rfl
  · have hc : (n.toNat : Int) = n := by omega
    refine count_loop (σ := Unit) n.toNat (fun k i _ => r_sl1Ten (n, ()) k [false, true, false, true, true] (h0_sl1Ten n ((10 : Int) ^ i) (i : Int))) (fun _ _ => (pw n, ())) (fun _ _ => True) (fun k s _ => ?_) (fun k i s hi _ => ?_) n.toNat 0 () (by omega) trivial
    · rw [rd0_sl1Ten, show decide ((n.toNat : Int) < n) = false from decide_eq_false (by omega)]
      rfl
    · refine .inr ⟨(), trivial, ?_, rfl⟩
      rw [rd0_sl1Ten, show decide ((i : Int) < n) = true from decide_eq_true (by omega), pw_step (by omega), w_succ (by omega)]
      rfl
theorem s_sl1Ten : C_sl1Ten (fun x => decide (x.1 ≤ 18)) (fun x => (pw x.1, ())) := S_sl1Ten fun x hx => ⟨_, (ev_sl1Ten _ x.1).trans (p_sl1Ten x.1 (of_decide_eq_true hx))⟩
theorem near_arith {n d : Int} (h : nrPre n d = true) (h0 : 0 ≤ n) : w64 (Int.tdiv (w64 (w64 ((2 : Int) * n) + d)) (w64 ((2 : Int) * d))) = near n d ∧ decide (w64 ((2 : Int) * d) = (0 : Int)) = false ∧ 0 ≤ near n d ∧ near n d ≤ 2000000000000000 := by
  obtain ⟨⟨h1, h2⟩, h3, h4⟩ := nrPre_iff.1 h
  have e1 : w64 ((2 : Int) * d) = 2 * d := w64_eq (by omega) (by omega)
  have e2 : w64 ((2 : Int) * n) = 2 * n := w64_eq (by omega) (by omega)
  have e3 : w64 (2 * n + d) = 2 * n + d := w64_eq (by omega) (by omega)
  have e4 : Int.tdiv (2 * n + d) (2 * d) = (2 * n + d) / (2 * d) := Int.tdiv_eq_ediv_of_nonneg (by omega)
  have a1 : 0 ≤ (2 * n + d) / (2 * d) := Int.ediv_nonneg (by omega) (by omega)
  have a2 : (2 * n + d) / (2 * d) ≤ n + d := by
    refine Int.ediv_le_of_le_mul (by omega) ?_
    have : n + d ≤ (n + d) * d := by
      have := Int.mul_le_mul_of_nonneg_left (show (1 : Int) ≤ d by omega) (show 0 ≤ n + d by omega)
      omega
    have e : (n + d) * (2 * d) = 2 * ((n + d) * d) := by rw [Int.mul_left_comm]
    omega
  have e5 : near n d = (2 * n + d) / (2 * d) := by unfold near; rw [if_neg (by omega)]
  rw [e1, e2, e3, e4, e5]
  exact ⟨w64_eq (by omega) (by omega), decide_eq_false (by omega), a1, by omega⟩

theorem near_neg {n d : Int} (h : n < 0) : near n d = -(near (-n) d) := by
  unfold near; rw [if_pos h, if_neg (by omega)]
theorem p_inearest_up {n d : Int} {g p} (h : nrPre n d = true) (h0 : 0 ≤ n) : E_inearest g p 0 (n, d, ()) = some (near n d, ()) := (ev_inearest 0 n d).trans (by
  obtain ⟨h1, h2, _⟩ := near_arith h h0
  rw [show decide (n < (0 : Int)) = false from decide_eq_false (by omega), h2, h1]
  rfl)
theorem s_inearest_up : C_inearest (fun x => nrPre x.1 x.2.1 && decide (0 ≤ x.1)) (fun x => (near x.1 x.2.1, ())) := S_inearest (S0_inearest (fn := fun _ => (0, ()))) fun x hx => ⟨0, p_inearest_up (Bool.and_eq_true_iff.1 hx).1 (of_decide_eq_true (Bool.and_eq_true_iff.1 hx).2)⟩
theorem p_inearest {n d : Int} (hx : nrPre n d = true) : E_inearest (fun x => (near x.1 x.2.1, ())) (fun x => nrPre x.1 x.2.1 && decide (0 ≤ x.1)) 0 (n, d, ()) = some (near n d, ()) := by
  obtain ⟨⟨h1, h2⟩, h3, h4⟩ := nrPre_iff.1 hx
  by_cases h0 : n < 0
  · refine (ev_inearest 0 n d).trans ?_
    have e : w64 ((0 : Int) - n) = -n := by rw [w64_eq (by omega) (by omega)]; omega
    have hp : nrPre (-n) d = true := nrPre_iff.2 ⟨⟨by omega, by omega⟩, h3, h4⟩
    obtain ⟨_, _, g1, g2⟩ := near_arith hp (by omega)
    rw [show decide (n < (0 : Int)) = true from decide_eq_true h0, e]
    simp only [cond_true, hp, show decide (0 ≤ -n) = true from decide_eq_true (by omega), Bool.and_self]
    rw [near_neg h0, show w64 ((0 : Int) - near (-n) d) = -near (-n) d from by rw [w64_eq (by omega) (by omega)]; omega]
  · exact p_inearest_up hx (by omega)
theorem s_inearest : C_inearest (fun x => nrPre x.1 x.2.1) (fun x => (near x.1 x.2.1, ())) := S_inearest s_inearest_up fun x hx => ⟨0, p_inearest hx⟩
theorem p_sl1Near_up {n d : Int} {g p} (h : nrPre n d = true) (h0 : 0 ≤ n) : E_sl1Near g p 0 (n, d, ()) = some (near n d, ()) := (ev_sl1Near 0 n d).trans (by
  obtain ⟨h1, h2, _⟩ := near_arith h h0
  rw [show decide (n < (0 : Int)) = false from decide_eq_false (by omega), h2, h1]
  rfl)
theorem s_sl1Near_up : C_sl1Near (fun x => nrPre x.1 x.2.1 && decide (0 ≤ x.1)) (fun x => (near x.1 x.2.1, ())) := S_sl1Near (S0_sl1Near (fn := fun _ => (0, ()))) fun x hx => ⟨0, p_sl1Near_up (Bool.and_eq_true_iff.1 hx).1 (of_decide_eq_true (Bool.and_eq_true_iff.1 hx).2)⟩
theorem p_sl1Near {n d : Int} (hx : nrPre n d = true) : E_sl1Near (fun x => (near x.1 x.2.1, ())) (fun x => nrPre x.1 x.2.1 && decide (0 ≤ x.1)) 0 (n, d, ()) = some (near n d, ()) := by
  obtain ⟨⟨h1, h2⟩, h3, h4⟩ := nrPre_iff.1 hx
  by_cases h0 : n < 0
  · refine (ev_sl1Near 0 n d).trans ?_
    have e : w64 ((0 : Int) - n) = -n := by rw [w64_eq (by omega) (by omega)]; omega
    have hp : nrPre (-n) d = true := nrPre_iff.2 ⟨⟨by omega, by omega⟩, h3, h4⟩
    obtain ⟨_, _, g1, g2⟩ := near_arith hp (by omega)
    rw [show decide (n < (0 : Int)) = true from decide_eq_true h0, e]
    simp only [cond_true, hp, show decide (0 ≤ -n) = true from decide_eq_true (by omega), Bool.and_self]
    rw [near_neg h0, show w64 ((0 : Int) - near (-n) d) = -near (-n) d from by rw [w64_eq (by omega) (by omega)]; omega]
  · exact p_sl1Near_up hx (by omega)
theorem s_sl1Near : C_sl1Near (fun x => nrPre x.1 x.2.1) (fun x => (near x.1 x.2.1, ())) := S_sl1Near s_sl1Near_up fun x hx => ⟨0, p_sl1Near hx⟩

end Go.Proofs.Ytijolcgmciclhaa

set_option linter.unusedVariables false
set_option linter.unusedSimpArgs false
namespace Go.Proofs.Ytijolcgmciclhaa
open Go.Vm

theorem s_iDecOk : C_iDecOk (fun _ => true) (fun x => (decOk x.1, ())) := S_iDecOk s_iin s_ipower fun x _ => ⟨0, (ev_iDecOk 0 x.1).trans (p_decOk x.1)⟩
theorem s_sDecOk : C_sDecOk (fun _ => true) (fun x => (decOk x.1, ())) := S_sDecOk s_sl1In s_sl1Ten fun x _ => ⟨0, (ev_sDecOk 0 x.1).trans (p_decOk x.1)⟩
theorem s_iDecAt : C_iDecAt (fun _ => true) (fun x => (decAt x.1 x.2.1, ())) := S_iDecAt s_iDecOk s_iin s_ipower s_inearest fun x _ => ⟨0, (ev_iDecAt 0 x.1 x.2.1).trans (p_decAt x.1 x.2.1 _ fun h1 h2 => p_atR h1 h2)⟩
theorem s_sl1At : C_sl1At (fun x => decOk x.1 && inq x.2.1 0 3) (fun x => (atR x.1 x.2.1, ())) := S_sl1At s_sl1Ten s_sl1Near fun x hx => ⟨0, (ev_sl1At 0 x.1 x.2.1).trans (p_atR (Bool.and_eq_true_iff.1 hx).1 (Bool.and_eq_true_iff.1 hx).2)⟩
theorem s_sDecAt : C_sDecAt (fun _ => true) (fun x => (decAt x.1 x.2.1, ())) := S_sDecAt s_sDecOk s_sl1In s_sl1At fun x _ => ⟨0, (ev_sDecAt 0 x.1 x.2.1).trans (p_decAt x.1 x.2.1 _ fun h1 h2 => by
  simp only [h1, h2, Bool.and_self, cond_true])⟩
theorem s_gisNaN_int : C_gisNaN_int (fun _ => true) (fun _ => (false, ())) := S_gisNaN_int fun x _ => ⟨0, (ev_gisNaN_int 0 x.1).trans (by
  rw [decide_eq_true rfl]; rfl)⟩
theorem s_gCompare_int : C_gCompare_int (fun _ => true) (fun x => (cmpI x.1 x.2.1, ())) := S_gCompare_int s_gisNaN_int fun x _ => ⟨0, (ev_gCompare_int 0 x.1 x.2.1).trans (p_cmpI x.1 x.2.1)⟩
theorem s_iDecCmp : C_iDecCmp (fun _ => true) (fun x => (decCmp x.1 x.2.1, ())) := S_iDecCmp s_iDecOk s_iDecAt s_gCompare_int fun x _ => ⟨0, (ev_iDecCmp 0 x.1 x.2.1).trans (p_decCmp x.1 x.2.1 _ fun h1 h2 => by
  unfold decAt
  simp only [h1, h2, in03, Bool.and_self, cond_true])⟩
theorem s_sDecCmp : C_sDecCmp (fun _ => true) (fun x => (decCmp x.1 x.2.1, ())) := S_sDecCmp s_sDecOk s_sl1At fun x _ => ⟨0, (ev_sDecCmp 0 x.1 x.2.1).trans (p_decCmp x.1 x.2.1 _ fun h1 h2 => by
  simp only [h1, h2, in03, Bool.and_self, cond_true]
  exact p_cmpI _ _)⟩
theorem s_iisTest : C_iisTest (fun _ => true) (fun x => (inq x.1 1 4, ())) := S_iisTest s_iin fun x _ => ⟨0, ev_iisTest 0 x.1⟩
theorem s_iSpcTest_ok : C_iSpcTest_ok (fun _ => true) (fun x => (askOk x.1, ())) := S_iSpcTest_ok s_iisTest s_iDecOk s_iDecCmp s_iin fun x _ => ⟨0, (ev_iSpcTest_ok 0 x.1).trans (by
  simp only [bif_some, bif_pair, bif_and]; rfl)⟩
theorem s_sl3Test : C_sl3Test (fun _ => true) (fun x => (askOk x.1, ())) := S_sl3Test s_sl1In s_sDecOk s_sDecCmp fun x _ => ⟨0, (ev_sl3Test 0 x.1).trans (by
  simp only [bif_some, bif_pair, bif_and]; rfl)⟩
theorem s_iSpcIn : C_iSpcIn (fun _ => true) (fun x => (spcIn x.1 x.2.1, ())) := S_iSpcIn s_iSpcTest_ok s_iDecOk s_iDecAt s_iDecCmp fun x _ => ⟨0, (ev_iSpcIn 0 x.1 x.2.1).trans (p_spcIn x.1 x.2.1 _ fun h1 h2 => by
  have h3 := askOk_pl h1
  have e : decAt x.2.1 x.1.2.2.2 = atR x.2.1 x.1.2.2.2 := by unfold decAt; rw [h2, h3]; rfl
  simp only [e, bif_some, bif_pair, bif_and])⟩
theorem s_sSpcIn : C_sSpcIn (fun _ => true) (fun x => (spcIn x.1 x.2.1, ())) := S_sSpcIn s_sl3Test s_sDecOk s_sl1At s_sDecCmp fun x _ => ⟨0, (ev_sSpcIn 0 x.1 x.2.1).trans (p_spcIn x.1 x.2.1 _ fun h1 h2 => by
  simp only [h2, askOk_pl h1, Bool.and_self, cond_true, bif_some, bif_pair, bif_and])⟩

end Go.Proofs.Ytijolcgmciclhaa

set_option linter.unusedVariables false
set_option linter.unusedSimpArgs false
namespace Go.Proofs.Ytijolcgmciclhaa
open Go.Vm

theorem p_make {n : Nat} {α : Type} {X : Option α} (h : n ≤ 4294967296) : (bif (bif (bif (decide ((0 : Int) ≤ (n : Int))) then (decide ((n : Int) ≤ (BIG : Int))) else false) then (decide ((n : Int) = (n : Int))) else false) then X else none) = X := by
  rw [decide_eq_true (show (0 : Int) ≤ (n : Int) by omega), decide_eq_true (show (n : Int) ≤ (BIG : Int) by show (n : Int) ≤ ((4294967296 : Nat) : Int); omega), decide_eq_true rfl]; rfl

/-- Two rows of one length, and the loop over them. -/
theorem p_eqS {α : Type} {xs ys : List α} {X : Option (Bool × Unit)} (h : xs.length = ys.length → X = some (same xs ys, ())) : (bif (bif (decide ((xs.length : Int) = (ys.length : Int))) then false else true) then (some (false, ())) else X) = some (same xs ys, ()) := by
  by_cases hl : xs.length = ys.length
  · rw [decide_eq_true (by omega)]; exact h hl
  · rw [decide_eq_false (by omega), same_false fun e => hl (by rw [e])]; rfl

end Go.Proofs.Ytijolcgmciclhaa

set_option linter.unusedVariables false
set_option linter.unusedSimpArgs false
namespace Go.Proofs.Ytijolcgmciclhaa
open Go.Vm

/-- Lists that came in. -/
def wfSpcs (l : List MSpc) : Bool := okLen l.length && l.all (fun s => okLen s.1.length)
end Go.Proofs.Ytijolcgmciclhaa

set_option linter.unusedVariables false
set_option linter.unusedSimpArgs false
namespace Go.Proofs.Ytijolcgmciclhaa
open Go.Vm

theorem beq_dec (a b : MDec) : Sh.beq S_DecDec a b = same a b := by
  show (decide (a.1 = b.1) && decide (a.2 = b.2)) = _
  rw [same_int, same_int, same_pair]

theorem s_idecsOk_c1 : C_idecsOk_c1 (fun _ => true) (fun x => (!decOk x.1, ())) := S_idecsOk_c1 s_iDecOk fun x _ => ⟨0, (ev_idecsOk_c1 0 x.1).trans (by simp only [bif_not])⟩
theorem s_gIndexFunc_DecDec__idecsOk_c1 : C_gIndexFunc_DecDec__idecsOk_c1 (fun x => decide (List.length x.1 ≤ 4294967296)) (fun x => (idxOf (fun d => !decOk d) x.1 0, ())) := S_gIndexFunc_DecDec__idecsOk_c1 s_idecsOk_c1 fun x hx => ⟨List.length x.1 + 1, (ev_gIndexFunc_DecDec__idecsOk_c1 _ x.1 x.2.1).trans (by
  have hx : List.length x.1 ≤ 4294967296 := of_decide_eq_true hx
  refine idx_loop (α := MDec) x.1 (fun d => !decOk d) (fun k i => r_gIndexFunc_DecDec__idecsOk_c1 (fun x => (!decOk x.1, ())) (x.1, x.2.1, ()) k [false, true, false, true] (h0_gIndexFunc_DecDec__idecsOk_c1 x.1 x.2.1 (List.length x.1 : Int) (i : Int))) (fun k => ?_) (fun k i y r hd hi => ?_)
  · rw [rd0_gIndexFunc_DecDec__idecsOk_c1, lt_false (Nat.le_refl _)]; rfl
  · rw [rd0_gIndexFunc_DecDec__idecsOk_c1, in_true hi, lt_true hi, w_succ (by omega), rdL_drop hd]; rfl)⟩
theorem s_gContainsFunc_DecDec__idecsOk_c1 : C_gContainsFunc_DecDec__idecsOk_c1 (fun x => decide (List.length x.1 ≤ 4294967296)) (fun x => (List.any x.1 (fun d => !decOk d), ())) := S_gContainsFunc_DecDec__idecsOk_c1 s_gIndexFunc_DecDec__idecsOk_c1 fun x hx => ⟨0, (ev_gContainsFunc_DecDec__idecsOk_c1 0 x.1 x.2.1).trans (by
  have hx : decide (List.length x.1 ≤ 4294967296) = true := hx
  simp only [hx, cond_true, idxOf_any])⟩
theorem s_idecsOk : C_idecsOk (fun x => decide (List.length x.1 ≤ 4294967296)) (fun x => (List.all x.1 decOk, ())) := S_idecsOk s_gContainsFunc_DecDec__idecsOk_c1 fun x hx => ⟨0, (ev_idecsOk 0 x.1).trans (by
  have hx : decide (List.length x.1 ≤ 4294967296) = true := hx
  simp only [hx, cond_true, bif_not, not_any_not])⟩

theorem s_iTstNeed : C_iTstNeed (fun _ => true) (fun x => (need x.1, ())) := S_iTstNeed fun x _ => ⟨0, (ev_iTstNeed 0 x.1).trans (by
  have key : ∀ c : Int, (bif (decide (c = (1 : Int))) then (some ((1 : Int), ())) else (bif (decide (c = (2 : Int))) then (some ((2 : Int), ())) else (some ((0 : Int), ())))) = some (need c, ()) := fun c => by
    unfold need
    by_cases h1 : c = 1
    · rw [decide_eq_true h1, if_pos h1]; rfl
    · rw [decide_eq_false h1, if_neg h1]
      by_cases h2 : c = 2
      · rw [decide_eq_true h2, if_pos h2]; rfl
      · rw [decide_eq_false h2, if_neg h2]; rfl
  exact key x.1)⟩
theorem s_sTstNeed : C_sTstNeed (fun _ => true) (fun x => (need x.1, ())) := S_sTstNeed fun x _ => ⟨0, (ev_sTstNeed 0 x.1).trans (by
  have key : ∀ c : Int, (bif (decide (c = (1 : Int))) then (some ((1 : Int), ())) else (bif (decide (c = (2 : Int))) then (some ((2 : Int), ())) else (some ((0 : Int), ())))) = some (need c, ()) := fun c => by
    unfold need
    by_cases h1 : c = 1
    · rw [decide_eq_true h1, if_pos h1]; rfl
    · rw [decide_eq_false h1, if_neg h1]
      by_cases h2 : c = 2
      · rw [decide_eq_true h2, if_pos h2]; rfl
      · rw [decide_eq_false h2, if_neg h2]; rfl
  exact key x.1)⟩

theorem p_iDecMean (l : List MDec) (p : Int) (hl : inq l.length 1 100 = true) (ho : l.all decOk = true) (hp : inq p 0 3 = true) :
    r_iDecMean (fun x => (inq x.1 x.2.1 x.2.2.1, ())) (fun x => (List.all x.1 decOk, ())) (fun x => decide (List.length x.1 ≤ 4294967296)) (fun x => (decAt x.1 x.2.1, ())) (fun x => (pw x.1, ())) (fun x => decide (x.1 ≤ 18)) (fun x => (near x.1 x.2.1, ())) (fun x => nrPre x.1 x.2.1) (l, p, ()) (l.length + 1) [false, true, false, true, true, true] (h0_iDecMean l p 0 (l.length : Int) ((0 : Nat) : Int) (0, 0)) = some (decMean l p, ()) := by
  obtain ⟨h1, h2⟩ := inq_iff.1 hl
  obtain ⟨h3, h4⟩ := inq_iff.1 hp
  have := sum_loop l (by omega) (fun c => (near (c * pw p) ((l.length : Int) * pw 3), p)) (fun k i c => r_iDecMean (fun x => (inq x.1 x.2.1 x.2.2.1, ())) (fun x => (List.all x.1 decOk, ())) (fun x => decide (List.length x.1 ≤ 4294967296)) (fun x => (decAt x.1 x.2.1, ())) (fun x => (pw x.1, ())) (fun x => decide (x.1 ≤ 18)) (fun x => (near x.1 x.2.1, ())) (fun x => nrPre x.1 x.2.1) (l, p, ()) k [false, true, false, true, true, true] (h0_iDecMean l p c (l.length : Int) (i : Int) (0, 0))) (fun k c b1 b2 => ?_) (fun k i x r c hd hi b1 b2 => ?_)
  · refine this.trans ?_
    rw [ho]
    unfold decMean
    rw [hl, ho, hp, mean_near hl hp]; rfl
  · have hpw := pw_le h4
    have hpp := pw_pos p
    have p3 : pw 3 = 1000 := rfl
    have hpc : c * pw p ≤ 999900000000 ∧ -999900000000 ≤ c * pw p := by
      rcases pw_cases h4 with e | e | e | e <;> rw [e] <;> omega
    rw [rd0_iDecMean, lt_false (Nat.le_refl _)]
    simp only [cond_false, p3]
    rw [decide_eq_true (show p ≤ 18 by omega), w64_eq (x := c * pw p) (by omega) (by omega), w64_eq (x := (l.length : Int) * 1000) (by omega) (by omega)]
    have hn : nrPre (c * pw p) ((l.length : Int) * 1000) = true := nrPre_iff.2 ⟨⟨by omega, by omega⟩, by omega, by omega⟩
    rw [hn]; rfl
  · have hx : decOk x = true := List.all_eq_true.1 ho x (mem_drop hd)
    have hb := at3_bound hx
    rw [rd0_iDecMean, in_true hi, lt_true hi, w_succ (by omega), rdL_drop hd, hx]
    have e : decAt x 3 = atR x 3 := by unfold decAt; rw [hx]; rfl
    simp only [e, cond_true]
    rw [w64_eq (by omega) (by omega)]
theorem s_iDecMean : C_iDecMean (fun x => decide (List.length x.1 ≤ 4294967296)) (fun x => (decMean x.1 x.2.1, ())) := S_iDecMean s_iin s_idecsOk s_iDecAt s_ipower s_inearest fun x hx => ⟨List.length x.1 + 1, (ev_iDecMean _ x.1 x.2.1).trans (by
  have hx : decide (List.length x.1 ≤ 4294967296) = true := hx
  simp only [hx, cond_true]
  cases hl : inq (List.length x.1) 1 100
  · unfold decMean; rw [hl]; rfl
  · cases ho : List.all x.1 decOk
    · unfold decMean; rw [hl, ho]; rfl
    · cases hp : inq x.2.1 0 3
      · unfold decMean; rw [hl, ho, hp]; rfl
      · exact p_iDecMean x.1 x.2.1 hl ho hp)⟩
theorem p_sDecMean (l : List MDec) (p : Int) (hl : inq l.length 1 100 = true) (hp : inq p 0 3 = true) :
    r_sDecMean (fun x => (inq x.1 x.2.1 x.2.2.1, ())) (fun x => (decOk x.1, ())) (fun x => (atR x.1 x.2.1, ())) (fun x => decOk x.1 && inq x.2.1 0 3) (fun x => (pw x.1, ())) (fun x => decide (x.1 ≤ 18)) (fun x => (near x.1 x.2.1, ())) (fun x => nrPre x.1 x.2.1) (l, p, ()) (l.length + 1) [false, true, false, true, true, true] (h0_sDecMean l p 0 ((0 : Nat) : Int) (0, 0)) = some (decMean l p, ()) := by
  obtain ⟨h1, h2⟩ := inq_iff.1 hl
  obtain ⟨h3, h4⟩ := inq_iff.1 hp
  have := sum_loop l (by omega) (fun c => (near c ((l.length : Int) * pw (3 - p)), p)) (fun k i c => r_sDecMean (fun x => (inq x.1 x.2.1 x.2.2.1, ())) (fun x => (decOk x.1, ())) (fun x => (atR x.1 x.2.1, ())) (fun x => decOk x.1 && inq x.2.1 0 3) (fun x => (pw x.1, ())) (fun x => decide (x.1 ≤ 18)) (fun x => (near x.1 x.2.1, ())) (fun x => nrPre x.1 x.2.1) (l, p, ()) k [false, true, false, true, true, true] (h0_sDecMean l p c (i : Int) (0, 0))) (fun k c b1 b2 => ?_) (fun k i x r c hd hi b1 b2 => ?_)
  · refine this.trans ?_
    unfold decMean
    rw [hl, hp]
    cases l.all decOk <;> rfl
  · have hpw := pw_le (n := 3 - p) (by omega)
    have hpp := pw_pos (3 - p)
    have hpc : (l.length : Int) * pw (3 - p) ≤ 100000 ∧ 1 ≤ (l.length : Int) * pw (3 - p) := by
      rcases pw_cases (n := 3 - p) (by omega) with e | e | e | e <;> rw [e] <;> omega
    rw [rd0_sDecMean, lt_false (Nat.le_refl _)]
    simp only [cond_false]
    rw [w64_eq (x := 3 - p) (by omega) (by omega), decide_eq_true (show 3 - p ≤ 18 by omega), w64_eq (x := (l.length : Int) * pw (3 - p)) (by omega) (by omega)]
    have hn : nrPre c ((l.length : Int) * pw (3 - p)) = true := nrPre_iff.2 ⟨⟨by omega, by omega⟩, by omega, by omega⟩
    rw [hn]; rfl
  · rw [rd0_sDecMean, in_true hi, lt_true hi, w_succ (by omega), rdL_drop hd]
    cases hx : decOk x
    · rfl
    · have hb := at3_bound hx
      simp only [hx, in03, Bool.and_self, cond_true, cond_false]
      rw [w64_eq (by omega) (by omega)]
theorem s_sDecMean : C_sDecMean (fun x => decide (List.length x.1 ≤ 4294967296)) (fun x => (decMean x.1 x.2.1, ())) := S_sDecMean s_sl1In s_sDecOk s_sl1At s_sl1Ten s_sl1Near fun x hx => ⟨List.length x.1 + 1, (ev_sDecMean _ x.1 x.2.1).trans (by
  have key : ∀ (l : List MDec) (p : Int) (X : Option (MDec × Unit)), (inq l.length 1 100 = true → inq p 0 3 = true → X = some (decMean l p, ())) → (bif (decide ((l.length : Int) = (0 : Int))) then (some (((0 : Int), (0 : Int)), ())) else (bif (decide ((100 : Int) < (l.length : Int))) then (some (((0 : Int), (0 : Int)), ())) else (bif (bif inq p 0 3 then false else true) then (some (((0 : Int), (0 : Int)), ())) else X))) = some (decMean l p, ()) := fun l p X hX => by
    by_cases h0 : (l.length : Int) = 0
    · have : inq l.length 1 100 = false := by unfold inq; rw [decide_eq_false (by omega)]; rfl
      rw [decide_eq_true h0]; unfold decMean; rw [this]; rfl
    · by_cases h1 : (100 : Int) < (l.length : Int)
      · have : inq l.length 1 100 = false := by unfold inq; rw [decide_eq_false (show ¬ (l.length : Int) ≤ 100 by omega), Bool.and_false]
        rw [decide_eq_false h0, decide_eq_true h1]; unfold decMean; rw [this]; rfl
      · have hl : inq l.length 1 100 = true := inq_iff.2 ⟨by omega, by omega⟩
        rw [decide_eq_false h0, decide_eq_false h1]
        cases hp : inq p 0 3
        · unfold decMean; rw [hp, Bool.and_false, Bool.and_false]; rfl
        · exact hX hl hp
  exact key x.1 x.2.1 _ fun hl hp => p_sDecMean x.1 x.2.1 hl hp)⟩

end Go.Proofs.Ytijolcgmciclhaa

set_option linter.unusedVariables false
set_option linter.unusedSimpArgs false
namespace Go.Proofs.Ytijolcgmciclhaa
open Go.Vm

theorem rdLmore {l : List MDec} (h : l ≠ []) : rdL (e := S_DecDec) l (0 : Int) = l.getD 0 (0, 0) := rfl
theorem head_ok {l : List MDec} (h : l ≠ []) (ho : l.all decOk = true) : decOk (l.getD 0 (0, 0)) = true := by
  cases l with
  | nil => exact absurd rfl h
  | cons d r => exact List.all_eq_true.1 ho d List.mem_cons_self
theorem tlPre_iff {t : MTst} : tlPre t = true ↔ tsPre t = true ∧ (t.2.2.2.1 = 1 → t.2.2.2.2 ≠ []) := by
  unfold tlPre
  simp only [Bool.and_eq_true, Bool.or_eq_true, Bool.not_eq_true', decide_eq_false_iff_not, List.isEmpty_eq_false_iff]
  exact ⟨fun h => ⟨h.1, fun e => h.2.resolve_left (fun hn => hn e)⟩, fun h => ⟨h.1, Classical.or_iff_not_imp_left.2 fun hn => h.2 (Classical.not_not.1 hn)⟩⟩
theorem in0_ne {l : List MDec} (h : l ≠ []) : (bif (decide ((0 : Int) ≤ (0 : Int))) then (decide ((0 : Int) < (l.length : Int))) else false) = true := by
  have : 0 < l.length := List.length_pos_iff.2 h
  exact in_true (i := 0) this

theorem p_tell {t : MTst} (h : tlPre t = true) (A B C : Option (MDec × Unit)) (hA : t.2.2.2.2 ≠ [] → A = some (decAt (t.2.2.2.2.getD 0 (0, 0)) t.1.2.2.2, ())) (hB : B = some (decMean (t.2.2.1 :: t.2.2.2.2) t.1.2.2.2, ())) (hC : C = some (decAt t.2.2.1 t.1.2.2.2, ())) :
    (bif (decide (t.2.2.2.1 = (1 : Int))) then (bif (bif (decide ((0 : Int) ≤ (0 : Int))) then (decide ((0 : Int) < (t.2.2.2.2.length : Int))) else false) then A else none) else (bif (decide (t.2.2.2.1 = (2 : Int))) then (bif (fitL [t.2.2.1] t.2.2.2.2) then B else none) else C)) = some (tell t, ()) := by
  obtain ⟨h1, h2⟩ := tlPre_iff.1 h
  obtain ⟨_, _, _, h3⟩ := tsPre_iff.1 h1
  unfold tell
  by_cases c1 : t.2.2.2.1 = 1
  · rw [decide_eq_true c1, if_pos c1, in0_ne (h2 c1), hA (h2 c1)]; rfl
  · rw [decide_eq_false c1, if_neg c1]
    by_cases c2 : t.2.2.2.1 = 2
    · rw [decide_eq_true c2, if_pos c2, fitL_eq (by simp; omega), hB]; rfl
    · rw [decide_eq_false c2, if_neg c2, hC]; rfl

theorem s_iTstTest_counts : C_iTstTest_counts (fun x => tlPre x.1) (fun x => (tell x.1, ())) := S_iTstTest_counts s_iDecAt s_iDecMean fun x hx => ⟨0, (ev_iTstTest_counts 0 x.1).trans (by
  have hx : tlPre x.1 = true := hx
  obtain ⟨_, _, _, h3⟩ := tsPre_iff.1 (tlPre_iff.1 hx).1
  refine p_tell hx _ _ _ (fun _ => rfl) ?_ rfl
  have : decide (List.length (List.append [x.1.2.2.1] x.1.2.2.2.2) ≤ 4294967296) = true := decide_eq_true (by
    show (x.1.2.2.1 :: x.1.2.2.2.2).length ≤ _
    rw [List.length_cons]; exact Nat.le_trans (Nat.succ_le_succ h3) (by decide))
  rw [this]; rfl)⟩
theorem s_sl5Tell : C_sl5Tell (fun x => tlPre x.1) (fun x => (tell x.1, ())) := S_sl5Tell s_sl1At s_sDecMean fun x hx => ⟨0, (ev_sl5Tell 0 x.1).trans (by
  have hx : tlPre x.1 = true := hx
  obtain ⟨g1, g2, g3, h3⟩ := tsPre_iff.1 (tlPre_iff.1 hx).1
  have hp := askOk_pl g1
  have hat : ∀ d, decOk d = true → decAt d x.1.1.2.2.2 = atR d x.1.1.2.2.2 := fun d hd => by unfold decAt; rw [hd, hp]; rfl
  refine p_tell hx _ _ _ (fun hne => ?_) ?_ ?_
  · have ho := head_ok hne g3
    have e : (decOk (rdL (e := S_DecDec) x.1.2.2.2.2 (0 : Int)) && inq x.1.1.2.2.2 0 3) = true := by rw [rdLmore hne, ho, hp]; rfl
    rw [hat _ ho]
    simp only [e, cond_true]; rfl
  · have : decide (List.length (List.append [x.1.2.2.1] x.1.2.2.2.2) ≤ 4294967296) = true := decide_eq_true (by
      show (x.1.2.2.1 :: x.1.2.2.2.2).length ≤ _
      rw [List.length_cons]; exact Nat.le_trans (Nat.succ_le_succ h3) (by decide))
    rw [this]; rfl
  · rw [hat _ g2]
    simp only [g2, hp, Bool.and_self, cond_true])⟩

theorem s_iTstTest_told_c1 : C_iTstTest_told_c1 (fun _ => true) (fun x => (!spcIn x.2.1.1 x.1, ())) := S_iTstTest_told_c1 s_iSpcIn fun x _ => ⟨0, (ev_iTstTest_told_c1 0 x.1 x.2.1).trans (by simp only [bif_not])⟩
theorem s_gIndexFunc_DecDec__iTstTest_told_c1 : C_gIndexFunc_DecDec__iTstTest_told_c1 (fun x => decide (List.length x.1 ≤ 4294967296)) (fun x => (idxOf (fun d => !spcIn x.2.1.1.1 d) x.1 0, ())) := S_gIndexFunc_DecDec__iTstTest_told_c1 s_iTstTest_told_c1 fun x hx => ⟨List.length x.1 + 1, (ev_gIndexFunc_DecDec__iTstTest_told_c1 _ x.1 x.2.1).trans (by
  have hx : List.length x.1 ≤ 4294967296 := of_decide_eq_true hx
  refine idx_loop (α := MDec) x.1 (fun d => !spcIn x.2.1.1.1 d) (fun k i => r_gIndexFunc_DecDec__iTstTest_told_c1 (fun x => (!spcIn x.2.1.1 x.1, ())) (x.1, x.2.1, ()) k [false, true, false, true] (h0_gIndexFunc_DecDec__iTstTest_told_c1 x.1 x.2.1 (List.length x.1 : Int) (i : Int))) (fun k => ?_) (fun k i y r hd hi => ?_)
  · rw [rd0_gIndexFunc_DecDec__iTstTest_told_c1, lt_false (Nat.le_refl _)]; rfl
  · rw [rd0_gIndexFunc_DecDec__iTstTest_told_c1, in_true hi, lt_true hi, w_succ (by omega), rdL_drop hd]; rfl)⟩
theorem s_gContainsFunc_DecDec__iTstTest_told_c1 : C_gContainsFunc_DecDec__iTstTest_told_c1 (fun x => decide (List.length x.1 ≤ 4294967296)) (fun x => (List.any x.1 (fun d => !spcIn x.2.1.1.1 d), ())) := S_gContainsFunc_DecDec__iTstTest_told_c1 s_gIndexFunc_DecDec__iTstTest_told_c1 fun x hx => ⟨0, (ev_gContainsFunc_DecDec__iTstTest_told_c1 0 x.1 x.2.1).trans (by
  have hx : decide (List.length x.1 ≤ 4294967296) = true := hx
  simp only [hx, cond_true, idxOf_any])⟩

theorem tl_of {t : MTst} (h : tsPre t = true) (hn : ¬ (t.2.2.2.2.length : Int) < need t.2.2.2.1) : tlPre t = true := by
  refine tlPre_iff.2 ⟨h, fun e hne => ?_⟩
  rw [hne, e] at hn
  exact hn (by decide)

theorem p_state {t : MTst} (A : Option (Int × Unit)) (h3 : t.2.2.2.1 ≠ 3) (hA : ¬ (t.2.2.2.2.length : Int) < need t.2.2.2.1 → A = some (if passes t = true then 3 else 4, ())) (h0 : t.2.2.2.1 ≠ 0) :
    (bif (decide ((t.2.2.2.2.length : Int) < need t.2.2.2.1)) then (some ((2 : Int), ())) else A) = some (stateOf t, ()) := by
  unfold stateOf
  rw [if_neg h0, if_neg h3]
  by_cases hn : (t.2.2.2.2.length : Int) < need t.2.2.2.1
  · rw [decide_eq_true hn, if_pos hn]; rfl
  · rw [decide_eq_false hn, if_neg hn, hA hn]; rfl

theorem s_iTstTest_told : C_iTstTest_told (fun x => tsPre x.1) (fun x => (stateOf x.1, ())) := S_iTstTest_told s_iSpcIn s_iTstNeed s_iTstTest_counts s_gContainsFunc_DecDec__iTstTest_told_c1 fun x hx => ⟨0, (ev_iTstTest_told 0 x.1).trans (by
  have key : ∀ t : MTst, tsPre t = true → t.2.2.2.1 ≠ 0 → (bif (decide ((t.2.2.2.2.length : Int) < need t.2.2.2.1)) then (some ((2 : Int), ())) else (bif (bif (decide (t.2.2.2.1 = (3 : Int))) then false else true) then (bif tlPre t then (bif spcIn t.1 (tell t) then (bif decide (t.2.2.2.2.length ≤ 4294967296) then (bif (bif (t.2.2.2.2.any fun d => !spcIn t.1 d) then false else true) then (some ((3 : Int), ())) else (some ((4 : Int), ()))) else none) else (some ((4 : Int), ()))) else none) else (some ((4 : Int), ())))) = some (stateOf t, ()) := fun t ht h0 => by
    obtain ⟨_, _, _, h3⟩ := tsPre_iff.1 ht
    by_cases c3 : t.2.2.2.1 = 3
    · have hn : ¬ (t.2.2.2.2.length : Int) < need t.2.2.2.1 := by rw [c3]; unfold need; simp
      unfold stateOf
      rw [if_neg h0, if_pos c3, decide_eq_false hn, decide_eq_true c3]; rfl
    · refine p_state _ c3 (fun hn => ?_) h0
      rw [decide_eq_false c3, tl_of ht hn, decide_eq_true (show t.2.2.2.2.length ≤ 4294967296 by omega)]
      simp only [bif_not, not_any_not, cond_true]
      unfold passes
      cases spcIn t.1 (tell t) <;> cases t.2.2.2.2.all (spcIn t.1) <;> rfl
  have hx : tsPre x.1 = true := hx
  by_cases h0 : x.1.2.2.2.1 = 0
  · unfold stateOf
    rw [if_pos h0]
    simp only [decide_eq_true h0]
    cases spcIn x.1.1 x.1.2.2.1 <;> rfl
  · have := key x.1 hx h0
    simp only [decide_eq_false h0, cond_false]
    exact this)⟩

theorem s_sl5Passes : C_sl5Passes (fun x => tlPre x.1) (fun x => (passes x.1, ())) := S_sl5Passes s_sSpcIn s_sl5Tell fun x hx => ⟨List.length x.1.2.2.2.2 + 1, (ev_sl5Passes _ x.1).trans (by
  have hx : tlPre x.1 = true := hx
  obtain ⟨_, _, _, h3⟩ := tsPre_iff.1 (tlPre_iff.1 hx).1
  have h3 : List.length x.1.2.2.2.2 ≤ 2 := h3
  refine all_loop (α := MDec) x.1.2.2.2.2 (spcIn x.1.1) (spcIn x.1.1 (tell x.1)) (fun k i => r_sl5Passes (fun x => (spcIn x.1 x.2.1, ())) (fun x => (tell x.1, ())) (fun x => tlPre x.1) (x.1, ()) k [false, true, false, true] (h0_sl5Passes x.1 (i : Int))) (fun k => ?_) (fun k i y r hd hi => ?_)
  · rw [rd0_sl5Passes, lt_false (Nat.le_refl _)]
    simp only [hx, cond_true, cond_false]
  · rw [rd0_sl5Passes, in_true hi, lt_true hi, w_succ (by omega), rdL_drop hd]
    simp only [cond_true, bif_not, bif_neg])⟩
theorem s_sl5State : C_sl5State (fun x => tsPre x.1) (fun x => (stateOf x.1, ())) := S_sl5State s_sSpcIn s_sTstNeed s_sl5Passes fun x hx => ⟨0, (ev_sl5State 0 x.1).trans (by
  have hx : tsPre x.1 = true := hx
  by_cases h0 : x.1.2.2.2.1 = 0
  · unfold stateOf
    rw [if_pos h0]
    simp only [decide_eq_true h0]
    cases spcIn x.1.1 x.1.2.2.1 <;> rfl
  · simp only [decide_eq_false h0, cond_false]
    by_cases c3 : x.1.2.2.2.1 = 3
    · unfold stateOf
      rw [if_neg h0, if_pos c3, decide_eq_true c3]; rfl
    · simp only [decide_eq_false c3, cond_false]
      refine p_state (t := x.1) _ c3 (fun hn => ?_) h0
      simp only [tl_of hx hn, cond_true]
      cases passes x.1 <;> rfl)⟩

theorem p_okB (t : MTst) (A : Option (Bool × Unit)) (hA : t.2.1 ≠ 0 → A = some (decide (t.2.1 = stateOf t) && (decide (t.2.2.2.1 = 0) || !spcIn t.1 t.2.2.1), ())) :
    (bif (decide (t.2.1 = (0 : Int))) then (bif (Sh.beq S_DecDec t.2.2.1 ((0 : Int), (0 : Int))) then (some ((decide (t.2.2.2.1 = (0 : Int))), ())) else (some (false, ()))) else A) = some (tstOkB t, ()) := by
  rw [beq_dec]
  unfold tstOkB
  by_cases h : t.2.1 = 0
  · rw [decide_eq_true h]
    cases same t.2.2.1 ((0 : Int), (0 : Int)) <;> rfl
  · rw [decide_eq_false h, hA h]; rfl
theorem p_okB2 (t : MTst) : (bif (decide (t.2.1 = stateOf t)) then (bif (decide (t.2.2.2.1 = (0 : Int))) then (some (true, ())) else (some ((bif spcIn t.1 t.2.2.1 then false else true), ()))) else (some (false, ()))) = some (decide (t.2.1 = stateOf t) && (decide (t.2.2.2.1 = 0) || !spcIn t.1 t.2.2.1), ()) := by
  cases decide (t.2.1 = stateOf t) <;> cases decide (t.2.2.2.1 = 0) <;> cases spcIn t.1 t.2.2.1 <;> rfl
theorem s_iTstOk : C_iTstOk (fun x => decide (List.length x.1.2.2.2.2 ≤ 4294967296)) (fun x => (tstOk x.1, ())) := S_iTstOk s_iSpcTest_ok s_iDecOk s_idecsOk s_iin s_iTstNeed s_iTstTest_told s_iSpcIn fun x hx => ⟨0, (ev_iTstOk 0 x.1).trans (by
  have hx : decide (List.length x.1.2.2.2.2 ≤ 4294967296) = true := hx
  simp only [hx, cond_true]
  unfold tstOk
  cases hA : tstOkA x.1
  · have hA' := hA
    unfold tstOkA at hA'
    cases h1 : askOk x.1.1
    · rfl
    · cases h2 : decOk x.1.2.2.1
      · rfl
      · cases h3 : List.all x.1.2.2.2.2 decOk
        · rfl
        · cases h4 : inq x.1.2.2.2.1 0 3
          · rfl
          · rw [h1, h2, h3, h4] at hA'
            have h5 : need x.1.2.2.2.1 < (List.length x.1.2.2.2.2 : Int) := Int.not_le.1 (of_decide_eq_false hA')
            simp only [cond_false, decide_eq_true h5]; rfl
  · have hp := tsPre_of hA
    unfold tstOkA at hA
    simp only [Bool.and_eq_true, decide_eq_true_eq] at hA
    obtain ⟨h1, h2, h3, h4, h5⟩ := hA
    simp only [h1, h2, h3, h4, decide_eq_false (Int.not_lt.2 h5), cond_true, cond_false, Bool.true_and]
    refine p_okB x.1 _ fun hs => ?_
    simp only [hp, cond_true]
    exact p_okB2 x.1)⟩
theorem s_sTstOk : C_sTstOk (fun _ => true) (fun x => (tstOk x.1, ())) := S_sTstOk s_sl3Test s_sDecOk s_sl1In s_sTstNeed s_sl5State s_sSpcIn fun x _ => ⟨List.length x.1.2.2.2.2 + 1, (ev_sTstOk _ x.1).trans (by
  have key : ∀ t : MTst, (bif (bif askOk t.1 then false else true) then (some (false, ())) else (bif (bif decOk t.2.2.1 then false else true) then (some (false, ())) else (bif (bif inq t.2.2.2.1 0 3 then false else true) then (some (false, ())) else (bif (decide (need t.2.2.2.1 < (t.2.2.2.2.length : Int))) then (some (false, ())) else
      (r_sTstOk (fun x => (askOk x.1, ())) (fun x => (decOk x.1, ())) (fun x => (inq x.1 x.2.1 x.2.2.1, ())) (fun x => (need x.1, ())) (fun x => (stateOf x.1, ())) (fun x => tsPre x.1) (fun x => (spcIn x.1 x.2.1, ())) (t, ()) (t.2.2.2.2.length + 1) [false, true, false, true, true] (h0_sTstOk t ((0 : Nat) : Int))))))) = some (tstOk t, ()) := fun t => by
    unfold tstOk
    have hloop : askOk t.1 = true → decOk t.2.2.1 = true → inq t.2.2.2.1 0 3 = true → (t.2.2.2.2.length : Int) ≤ need t.2.2.2.1 → r_sTstOk (fun x => (askOk x.1, ())) (fun x => (decOk x.1, ())) (fun x => (inq x.1 x.2.1 x.2.2.1, ())) (fun x => (need x.1, ())) (fun x => (stateOf x.1, ())) (fun x => tsPre x.1) (fun x => (spcIn x.1 x.2.1, ())) (t, ()) (t.2.2.2.2.length + 1) [false, true, false, true, true] (h0_sTstOk t ((0 : Nat) : Int)) = some (t.2.2.2.2.all decOk && tstOkB t, ()) := fun h1 h2 h4 h5 => by
      have h6 := need_le t.2.2.2.1
      by_cases h3 : t.2.2.2.2.all decOk = true
      · have hp : tsPre t = true := tsPre_iff.2 ⟨h1, h2, h3, by omega⟩
        refine all_loop (α := MDec) t.2.2.2.2 decOk (tstOkB t) (fun k i => r_sTstOk (fun x => (askOk x.1, ())) (fun x => (decOk x.1, ())) (fun x => (inq x.1 x.2.1 x.2.2.1, ())) (fun x => (need x.1, ())) (fun x => (stateOf x.1, ())) (fun x => tsPre x.1) (fun x => (spcIn x.1 x.2.1, ())) (t, ()) k [false, true, false, true, true] (h0_sTstOk t (i : Int))) (fun k => ?_) (fun k i y r hd hi => ?_)
        · rw [rd0_sTstOk, lt_false (Nat.le_refl _)]
          refine p_okB t _ fun hs => ?_
          simp only [hp, cond_true]
          exact p_okB2 t
        · rw [rd0_sTstOk, in_true hi, lt_true hi, w_succ (by omega), rdL_drop hd]
          simp only [cond_true, bif_not, bif_neg]
      · have h3 : t.2.2.2.2.all decOk = false := Bool.eq_false_iff.2 h3
        have := list_loop (σ := Unit) t.2.2.2.2 (fun k i _ => r_sTstOk (fun x => (askOk x.1, ())) (fun x => (decOk x.1, ())) (fun x => (inq x.1 x.2.1 x.2.2.1, ())) (fun x => (need x.1, ())) (fun x => (stateOf x.1, ())) (fun x => tsPre x.1) (fun x => (spcIn x.1 x.2.1, ())) (t, ()) k [false, true, false, true, true] (h0_sTstOk t (i : Int))) (fun l i _ => (false, ())) (fun i _ => (t.2.2.2.2.drop i).all decOk = false) (fun k s hs => by
          rw [List.drop_length] at hs; cases hs) (fun k i y r s hd hi hs => by
          cases hy : decOk y
          · refine .inl ?_
            show r_sTstOk _ _ _ _ _ _ _ _ _ _ _ = _
            rw [rd0_sTstOk, in_true hi, lt_true hi, w_succ (by omega), rdL_drop hd]
            simp only [hy]; rfl
          · refine .inr ⟨(), ?_, ?_, rfl⟩
            · rw [hd, List.all_cons, hy] at hs
              rw [drop_next hd]; exact hs
            · show r_sTstOk _ _ _ _ _ _ _ _ _ _ _ = _
              rw [rd0_sTstOk, in_true hi, lt_true hi, w_succ (by omega), rdL_drop hd]
              simp only [hy]; rfl) t.2.2.2.2.length 0 () (by omega) (by simpa using h3)
        rw [h3]
        exact this
    unfold tstOkA
    cases h1 : askOk t.1
    · rfl
    · cases h2 : decOk t.2.2.1
      · rfl
      · cases h4 : inq t.2.2.2.1 0 3
        · simp only [Bool.false_and, Bool.and_false]; rfl
        · by_cases h5 : (t.2.2.2.2.length : Int) ≤ need t.2.2.2.1
          · rw [decide_eq_true h5, decide_eq_false (by omega)]
            refine (hloop h1 h2 h4 h5).trans ?_
            simp only [Bool.true_and, Bool.and_true]
          · rw [decide_eq_false h5, decide_eq_true (by omega)]
            simp only [Bool.and_false, Bool.false_and]; rfl
  exact key x.1)⟩

theorem p_tstTell (t : MTst) (A : Option (MDec × Bool × Unit)) (hA : tstOk t = true → (t.2.1 = 3 ∨ t.2.1 = 4) → A = some (tell t, true, ())) :
    (bif (bif tstOk t then false else true) then (some (((0 : Int), (0 : Int)), (false, ()))) else (bif (bif (decide (t.2.1 = (3 : Int))) then false else true) then (bif (bif (decide (t.2.1 = (4 : Int))) then false else true) then (some (((0 : Int), (0 : Int)), (false, ()))) else A) else A)) =
    some (bif tstOk t && (decide (t.2.1 = 3) || decide (t.2.1 = 4)) then (tell t, true, ()) else ((0, 0), false, ())) := by
  cases h : tstOk t
  · rfl
  · by_cases h3 : t.2.1 = 3
    · rw [decide_eq_true h3, hA h (.inl h3)]; rfl
    · by_cases h4 : t.2.1 = 4
      · rw [decide_eq_true h4, decide_eq_false h3, hA h (.inr h4)]; rfl
      · rw [decide_eq_false h4, decide_eq_false h3]; rfl
/-- A test that is settled can be told. -/
theorem settled_tl {t : MTst} (h : tstOk t = true) (hs : t.2.1 = 3 ∨ t.2.1 = 4) : tlPre t = true := by
  unfold tstOk at h
  obtain ⟨hA, hB⟩ := Bool.and_eq_true_iff.1 h
  have hp := tsPre_of hA
  have h0 : t.2.1 ≠ 0 := by omega
  unfold tstOkB at hB
  rw [decide_eq_false h0, cond_false, Bool.and_eq_true] at hB
  have he : t.2.1 = stateOf t := of_decide_eq_true hB.1
  refine tlPre_iff.2 ⟨hp, fun c1 hne => ?_⟩
  unfold stateOf at he
  rw [c1, hne] at he
  simp only [List.length_nil, if_neg (show ¬ (1 : Int) = 0 by decide), if_neg (show ¬ (1 : Int) = 3 by decide), need, if_true] at he
  rw [if_pos (by decide)] at he
  omega
end Go.Proofs.Ytijolcgmciclhaa

set_option linter.unusedVariables false
set_option linter.unusedSimpArgs false
namespace Go.Proofs.Ytijolcgmciclhaa
open Go.Vm

theorem p_szLen (n : Nat) (l : Int) (h1 : n ≤ 9223372036854775807) (h2 : 0 ≤ l) (h3 : l ≤ 1048576) : (bif (decide ((w64 (l - (n : Int))) < (0 : Int))) then (some ((-1 : Int), ())) else (some ((w64 (l - (n : Int))), ()))) = some (if l < (n : Int) then -1 else l - (n : Int), ()) := by
  rw [w64_eq (by omega) (by omega)]
  by_cases h : l < n
  · rw [if_pos h, decide_eq_true (by omega)]; rfl
  · rw [if_neg h, decide_eq_false (by omega)]; rfl
theorem p_szPass (n : Nat) (l : Int) (h : 0 ≤ l) : (bif decide ((if l < (n : Int) then -1 else l - (n : Int)) < (0 : Int)) then (some ((-1 : Int), ())) else (some ((if l < (n : Int) then -1 else l - (n : Int)), ()))) = some ((if l < (n : Int) then -1 else l - (n : Int)), ()) := by
  by_cases h1 : l < (n : Int)
  · rw [if_pos h1]; rfl
  · rw [if_neg h1, decide_eq_false (by omega)]; rfl
/-- What is left behind so many. -/
def szN (n : Nat) (l : Int) : Int := if l < (n : Int) then -1 else l - (n : Int)
theorem szN_small {n : Nat} {l : Int} (h : l ≤ 1048576) (h2 : ¬ szN n l < 0) : n ≤ 1048576 := by
  unfold szN at h2; split at h2 <;> omega

end Go.Proofs.Ytijolcgmciclhaa

set_option linter.unusedVariables false
set_option linter.unusedSimpArgs false
namespace Go.Proofs.Ytijolcgmciclhaa
open Go.Vm

theorem x_sl20Rd_pick : ∃ fn : In_sl20Rd_pick → Out_sl20Rd_pick, ∀ x, (fun x : In_sl20Rd_pick => rdB 1 x.1) x = true → (∃ k, E_sl20Rd_pick k x = some (fn x)) ∧ (fun (x : In_sl20Rd_pick) (v : Out_sl20Rd_pick) => Step 1 x.1 v.2.1 ∧ PickQ x.2 v.1) x (fn x) := by
  refine choose_fn (fun k x => E_sl20Rd_pick k x) (fun x : In_sl20Rd_pick => rdB 1 x.1) (fun (x : In_sl20Rd_pick) (v : Out_sl20Rd_pick) => Step 1 x.1 v.2.1 ∧ PickQ x.2 v.1) ((0 : Int), (([], 0), ())) fun x hx => ⟨0, ?_⟩
  have key : ∀ (b : List Int) (p n : Int), rdB 1 (b, p) = true → Gets (E_sl20Rd_pick 0 ((b, p), n, ())) (fun v => Step 1 (b, p) v.2.1 ∧ PickQ (n, ()) v.1) := by
    intro b p n hx
    obtain ⟨⟨hl, hb⟩, h0, h1⟩ := rdB_iff.1 hx
    have hl : b.length ≤ 2000 := hl
    have hb : ∀ y ∈ b, 0 ≤ y ∧ y ≤ 255 := hb
    have h0 : 0 ≤ p := h0
    have h1 : p + 1 ≤ 1000000 := h1
    rw [ev_sl20Rd_pick 0 (b, p) n]
    have e1 : w64 (p + 1) = p + 1 := w64_eq (by omega) (by omega)
    have e2 : w64 (p + 1 - 1) = p := by rw [w64_eq (by omega) (by omega)]; omega
    have e3 : w64 (p * 7) = p * 7 := w64_eq (by omega) (by omega)
    have e4 : w64 (p * 7 + 3) = p * 7 + 3 := w64_eq (by omega) (by omega)
    have hb' := rdL_byte hb
    simp only [e1, e2, e3, e4]
    have go : ∀ i : Int, 0 ≤ i → (1 ≤ n → i < n) → Step 1 (b, p) (b, p + 1) ∧ PickQ (n, ()) i := fun i hi hi2 =>
      ⟨⟨rfl, (by show p ≤ p + 1; omega), (by show p + 1 ≤ p + ((1 : Nat) : Int); omega)⟩, hi, hi2⟩
    refine gets_both (fun hc => gets_some (go _ (Int.le_refl _) fun h => Int.lt_of_lt_of_le Int.zero_lt_one h)) fun hc => gets_both (fun hc2 => gets_some (go _ (Int.le_refl _) fun h => Int.lt_of_lt_of_le Int.zero_lt_one h)) fun hc2 => ?_
    have hn : 1 ≤ n := Int.not_lt.1 (of_decide_eq_false hc)
    have hL : b.length ≠ 0 := by have := of_decide_eq_false hc2; omega
    have n0 : (bif decide (n = (0 : Int)) then false else true) = true := by rw [decide_eq_false (by omega)]; rfl
    refine gets_both (fun hc3 => ?_) fun hc3 => ?_
    · have hlt := of_decide_eq_true hc3
      refine gets_need (by rw [decide_eq_true h0]; exact hc3) (gets_need n0 (gets_some (go _ ?_ fun _ => ?_)))
      · exact byte_mod n (hb' p)
      · exact Int.tmod_lt_of_pos _ (by omega)
    · have hlen : ((b.length : Nat) : Int) ≠ 0 := by omega
      have hL0 : (bif decide ((b.length : Int) = (0 : Int)) then false else true) = true := by rw [decide_eq_false hlen]; rfl
      have tm : ∀ z : Int, 0 ≤ z → (bif decide ((0 : Int) ≤ Int.tmod z (b.length : Int)) then decide (Int.tmod z (b.length : Int) < (b.length : Int)) else false) = true := fun z hz => by
        rw [decide_eq_true (Int.tmod_nonneg _ hz)]; exact decide_eq_true (Int.tmod_lt_of_pos _ (by omega))
      refine gets_need hL0 (gets_need (tm p h0) (gets_need hL0 (gets_need (tm _ (by omega)) (gets_need hL0 (gets_need rfl (gets_need n0 (gets_some (go _ ?_ fun _ => Int.tmod_lt_of_pos _ (by omega)))))))))
      exact pick_arith n h0 (by omega) (hb' _) (hb' _) ⟨Int.tdiv_nonneg h0 (by omega), by rw [Int.tdiv_eq_ediv_of_nonneg h0]; exact Int.ediv_le_self _ h0⟩
  exact key x.1.1 x.1.2 x.2.1 hx
noncomputable def d_sl20Rd_pick := Classical.choose x_sl20Rd_pick
theorem q_sl20Rd_pick (r : MRd) (a : Int × Unit) (h : RdOk 1 r) : Step 1 r (d_sl20Rd_pick (r, a)).2.1 ∧ PickQ a (d_sl20Rd_pick (r, a)).1 := (Classical.choose_spec x_sl20Rd_pick (r, a) (rdB_iff.2 h)).2
theorem s_sl20Rd_pick : C_sl20Rd_pick (fun x => rdB 1 x.1) d_sl20Rd_pick := S_sl20Rd_pick fun x hx => (Classical.choose_spec x_sl20Rd_pick x hx).1

theorem x_sl20Dec : ∃ fn : In_sl20Dec → Out_sl20Dec, ∀ x, (fun x : In_sl20Dec => rdB 7 x.1) x = true → (∃ k, E_sl20Dec d_sl20Rd_pick (fun x => rdB 1 x.1) (fun x => (pw x.1, ())) (fun x => decide (x.1 ≤ 18)) k x = some (fn x)) ∧ (fun (x : In_sl20Dec) (v : Out_sl20Dec) => Step 7 x.1 v.2.1 ∧ True) x (fn x) := by
  refine choose_fn (fun k x => E_sl20Dec d_sl20Rd_pick (fun x => rdB 1 x.1) (fun x => (pw x.1, ())) (fun x => decide (x.1 ≤ 18)) k x) (fun x : In_sl20Dec => rdB 7 x.1) (fun (x : In_sl20Dec) (v : Out_sl20Dec) => Step 7 x.1 v.2.1 ∧ True) ((0, 0), (([], 0), ())) fun x hx => ?_
  have key : ∀ (r0 : MRd) (a1 : Int), RdOk 7 r0 → Gets (E_sl20Dec d_sl20Rd_pick (fun x => rdB 1 x.1) (fun x => (pw x.1, ())) (fun x => decide (x.1 ≤ 18)) 0 (r0, a1, ())) (fun v => Step 7 r0 v.2.1 ∧ True) := by
    intro r0 a1 h0
    have hs := Step.refl r0
    rw [ev_sl20Dec 0 r0 a1]
    repeat' first
      | refine then_go (Q := PickQ) q_sl20Rd_pick h0 rfl (by assumption) (by decide) fun y r' hq hs => ?_
      | refine gets_cl (pick_le (by assumption) (by decide) (by decide)) ?_
      | refine gets_need (pick_le (by assumption) (by decide) (by decide)) ?_
      | refine gets_need (pick_ix (by assumption) (by decide) (by exact Int.le_refl _)) ?_
      | exact gets_some ⟨Step.mono (by assumption) (by decide), trivial⟩
      | refine gets_both (fun hc => ?_) fun hc => ?_
  exact ⟨0, key x.1 x.2.1 (rdB_iff.1 hx)⟩
noncomputable def d_sl20Dec := Classical.choose x_sl20Dec
theorem c_sl20Dec (x : In_sl20Dec) (hx : (fun x : In_sl20Dec => rdB 7 x.1) x = true) : (fun (x : In_sl20Dec) (v : Out_sl20Dec) => Step 7 x.1 v.2.1 ∧ True) x (d_sl20Dec x) := (Classical.choose_spec x_sl20Dec x hx).2
theorem s_sl20Dec : C_sl20Dec (fun x => rdB 7 x.1) d_sl20Dec := S_sl20Dec s_sl20Rd_pick s_sl1Ten fun x hx => (Classical.choose_spec x_sl20Dec x hx).1
theorem q_sl20Dec (r : MRd) (a : Int × Unit) (h : RdOk 7 r) : Step 7 r (d_sl20Dec (r, a)).2.1 ∧ (True) := c_sl20Dec (r, a) (rdB_iff.2 h)
theorem x_sl20Ask : ∃ fn : In_sl20Ask → Out_sl20Ask, ∀ x, (fun x : In_sl20Ask => rdB 14 x.1) x = true → (∃ k, E_sl20Ask d_sl20Rd_pick (fun x => rdB 1 x.1) d_sl20Dec (fun x => rdB 7 x.1) k x = some (fn x)) ∧ (fun (x : In_sl20Ask) (v : Out_sl20Ask) => Step 14 x.1 v.2.1 ∧ True) x (fn x) := by
  refine choose_fn (fun k x => E_sl20Ask d_sl20Rd_pick (fun x => rdB 1 x.1) d_sl20Dec (fun x => rdB 7 x.1) k x) (fun x : In_sl20Ask => rdB 14 x.1) (fun (x : In_sl20Ask) (v : Out_sl20Ask) => Step 14 x.1 v.2.1 ∧ True) ((0, (0, 0), (0, 0), 0), (([], 0), ())) fun x hx => ?_
  have key : ∀ (r0 : MRd) (a1 : Int) (a2 : Int), RdOk 14 r0 → Gets (E_sl20Ask d_sl20Rd_pick (fun x => rdB 1 x.1) d_sl20Dec (fun x => rdB 7 x.1) 0 (r0, a1, a2, ())) (fun v => Step 14 r0 v.2.1 ∧ True) := by
    intro r0 a1 a2 h0
    have hs := Step.refl r0
    rw [ev_sl20Ask 0 r0 a1 a2]
    repeat' first
      | refine then_go (Q := PickQ) q_sl20Rd_pick h0 rfl (by assumption) (by decide) fun y r' hq hs => ?_
      | refine then_go (Q := fun a y => True) q_sl20Dec h0 rfl (by assumption) (by decide) fun y r' hq hs => ?_
      | refine gets_cl (pick_le (by assumption) (by decide) (by decide)) ?_
      | refine gets_need (pick_le (by assumption) (by decide) (by decide)) ?_
      | refine gets_need (pick_ix (by assumption) (by decide) (by exact Int.le_refl _)) ?_
      | exact gets_some ⟨Step.mono (by assumption) (by decide), trivial⟩
      | refine gets_both (fun hc => ?_) fun hc => ?_
  exact ⟨0, key x.1 x.2.1 x.2.2.1 (rdB_iff.1 hx)⟩
noncomputable def d_sl20Ask := Classical.choose x_sl20Ask
theorem c_sl20Ask (x : In_sl20Ask) (hx : (fun x : In_sl20Ask => rdB 14 x.1) x = true) : (fun (x : In_sl20Ask) (v : Out_sl20Ask) => Step 14 x.1 v.2.1 ∧ True) x (d_sl20Ask x) := (Classical.choose_spec x_sl20Ask x hx).2
theorem s_sl20Ask : C_sl20Ask (fun x => rdB 14 x.1) d_sl20Ask := S_sl20Ask s_sl20Rd_pick s_sl20Dec fun x hx => (Classical.choose_spec x_sl20Ask x hx).1
theorem q_sl20Ask (r : MRd) (a : Int × Int × Unit) (h : RdOk 14 r) : Step 14 r (d_sl20Ask (r, a)).2.1 ∧ (True) := c_sl20Ask (r, a) (rdB_iff.2 h)
theorem x_sl20Open : ∃ fn : In_sl20Open → Out_sl20Open, ∀ x, (fun x : In_sl20Open => bytesB x.1) x = true → (∃ k, E_sl20Open k x = some (fn x)) ∧ (fun (x : In_sl20Open) (v : Out_sl20Open) => RdOk 1000000 v.1) x (fn x) := by
  refine choose_fn (fun k x => E_sl20Open k x) (fun x : In_sl20Open => bytesB x.1) (fun (x : In_sl20Open) (v : Out_sl20Open) => RdOk 1000000 v.1) (([], 0), ()) fun x hx => ?_
  have key : ∀ xs : List Int, bytesB xs = true → Gets (E_sl20Open 0 (xs, ())) (fun v => RdOk 1000000 v.1) := by
    intro xs h
    rw [ev_sl20Open 0 xs]
    refine gets_both (fun hc => gets_need ?_ (gets_some (open_ok h))) fun hc => gets_some (open_ok2 h hc)
    have : (2000 : Int) < (xs.length : Int) := of_decide_eq_true hc
    show decide ((2000 : Int) ≤ (xs.length : Int)) = true
    exact decide_eq_true (by omega)
  exact ⟨0, key x.1 hx⟩
noncomputable def d_sl20Open := Classical.choose x_sl20Open
theorem c_sl20Open (x : In_sl20Open) (hx : (fun x : In_sl20Open => bytesB x.1) x = true) : (fun (x : In_sl20Open) (v : Out_sl20Open) => RdOk 1000000 v.1) x (d_sl20Open x) := (Classical.choose_spec x_sl20Open x hx).2
theorem s_sl20Open : C_sl20Open (fun x => bytesB x.1) d_sl20Open := S_sl20Open  fun x hx => (Classical.choose_spec x_sl20Open x hx).1
end Go.Proofs.Ytijolcgmciclhaa

set_option linter.unusedVariables false
set_option linter.unusedSimpArgs false
namespace Go.Proofs.Ytijolcgmciclhaa
open Go.Vm

theorem s_iDayLeap : C_iDayLeap (fun _ => true) (fun x => (decide (Int.tmod x.1 4 = 0) && (!decide (Int.tmod x.1 100 = 0) || decide (Int.tmod x.1 400 = 0)), ())) := S_iDayLeap fun x _ => ⟨0, (ev_iDayLeap 0 x.1).trans (by
  have key : ∀ y : Int, (bif (bif (decide ((4 : Int) = (0 : Int))) then false else true) then (bif (decide ((Int.tmod y (4 : Int)) = (0 : Int))) then (bif (bif (decide ((100 : Int) = (0 : Int))) then false else true) then (bif (bif (decide ((Int.tmod y (100 : Int)) = (0 : Int))) then false else true) then (some (true, ())) else (bif (bif (decide ((400 : Int) = (0 : Int))) then false else true) then (some ((decide ((Int.tmod y (400 : Int)) = (0 : Int))), ())) else none)) else none) else (some (false, ()))) else none) = some (decide (Int.tmod y 4 = 0) && (!decide (Int.tmod y 100 = 0) || decide (Int.tmod y 400 = 0)), ()) := fun y => by
    cases decide (Int.tmod y 4 = 0)
    · rfl
    · cases decide (Int.tmod y 100 = 0) <;> rfl
  exact key x.1)⟩
theorem s_iDayLast : C_iDayLast (fun x => decide (x.1 = 2000) && decide (x.2.1 = 2)) (fun _ => ((29 : Int), ())) := S_iDayLast s_iin s_iDayLeap fun x hx => by
  have hx : (decide (x.1 = 2000) && decide (x.2.1 = 2)) = true := hx
  simp only [Bool.and_eq_true, decide_eq_true_eq] at hx
  obtain ⟨a, b, u⟩ := x
  obtain ⟨h1, h2⟩ := hx
  have h1 : a = 2000 := h1
  have h2 : b = 2 := h2
  subst h1 h2
  exact ⟨0, ev_iDayLast 0 2000 2⟩
theorem s_iDayOk : C_iDayOk (fun x => decide (x.1.1 = 2000) && (decide (x.1.2.1 = 2) && decide (x.1.2.2 = 29))) (fun _ => (true, ())) := S_iDayOk s_iin s_iDayLast fun x hx => by
  have hx : (decide (x.1.1 = 2000) && (decide (x.1.2.1 = 2) && decide (x.1.2.2 = 29))) = true := hx
  simp only [Bool.and_eq_true, decide_eq_true_eq] at hx
  obtain ⟨⟨a, b, c⟩, u⟩ := x
  obtain ⟨h1, h2, h3⟩ := hx
  have h1 : a = 2000 := h1
  have h2 : b = 2 := h2
  have h3 : c = 29 := h3
  subst h1 h2 h3
  exact ⟨0, ev_iDayOk 0 (2000, 2, 29)⟩
theorem s_lcuOk : C_lcuOk (fun _ => true) (fun _ => (true, ())) := S_lcuOk s_iDayOk fun x _ => ⟨0, ev_lcuOk 0⟩

noncomputable def spcFind (l : List MAsk) (n : Int) : MAsk × Bool := bif decide (idxOf (fun t : MAsk => decide (t.1 = n)) l 0 < 0) then ((0, (0, 0), (0, 0), 0), false) else (rdL (e := S_SpcTest) l (idxOf (fun t : MAsk => decide (t.1 = n)) l 0), true)
theorem s_sTstNew : C_sTstNew (fun _ => true) (fun x => ((x.1, 0, (0, 0), 0, []), ())) := S_sTstNew fun x _ => ⟨0, ev_sTstNew 0 x.1⟩

theorem beq_ask (a b : MAsk) : Sh.beq S_SpcTest a b = same a b := by
  show (decide (a.1 = b.1) && ((decide (a.2.1.1 = b.2.1.1) && decide (a.2.1.2 = b.2.1.2)) && ((decide (a.2.2.1.1 = b.2.2.1.1) && decide (a.2.2.1.2 = b.2.2.1.2)) && decide (a.2.2.2 = b.2.2.2)))) = _
  simp only [same_int, same_pair]
theorem s_lcuDecs : C_lcuDecs (fun x => decide (List.length x.1 ≤ 4294967296)) (fun x => (same x.1 x.2.1, ())) := S_lcuDecs fun x hx => ⟨List.length x.1 + 1, (ev_lcuDecs _ x.1 x.2.1).trans (by
  have hx : List.length x.1 ≤ 4294967296 := of_decide_eq_true hx
  by_cases hl : List.length x.1 = List.length x.2.1
  · rw [hl, decide_eq_true rfl, ← hl]
    refine eq_loop (α := MDec) x.1 x.2.1 hl (fun k i => r_lcuDecs (x.1, x.2.1, ()) k [false, true, false, true, true] (h0_lcuDecs x.1 x.2.1 (i : Int))) (fun k => ?_) (fun k i a b r r' hd hd' hi hi' => ?_)
    · rw [rd0_lcuDecs, lt_false (Nat.le_refl _)]; rfl
    · rw [rd0_lcuDecs, in_true hi, in_true hi', lt_true hi, w_succ (by omega), rdL_drop hd, rdL_drop hd', beq_dec]
      cases same a b <;> rfl
  · rw [decide_eq_false (by omega), same_false (fun e => hl (congrArg List.length e))]; rfl)⟩
theorem s_lcuTest : C_lcuTest (fun x => decide (List.length x.1.2.2.2.2 ≤ 4294967296)) (fun x => (same x.1 x.2.1, ())) := S_lcuTest s_lcuDecs fun x hx => ⟨0, (ev_lcuTest 0 x.1 x.2.1).trans (by
  have hx : decide (List.length x.1.2.2.2.2 ≤ 4294967296) = true := hx
  have key : ∀ a b : MTst, (bif same a.1 b.1 then (bif decide (a.2.1 = b.2.1) then (bif same a.2.2.1 b.2.2.1 then (bif decide (a.2.2.2.1 = b.2.2.2.1) then some (same a.2.2.2.2 b.2.2.2.2, ()) else some (false, ())) else some (false, ())) else some (false, ())) else some (false, ())) = some (same a b, ()) := by
    intro a b
    rw [← same_pair a.1 b.1, ← same_pair a.2.1 b.2.1, ← same_pair a.2.2.1 b.2.2.1, ← same_pair a.2.2.2.1 b.2.2.2.1, same_int, same_int]
    cases same a.1 b.1 <;> cases same a.2.1 b.2.1 <;> cases same a.2.2.1 b.2.2.1 <;> cases same a.2.2.2.1 b.2.2.2.1 <;> rfl
  simp only [hx, cond_true]
  exact (by rw [beq_ask, beq_dec]; exact key x.1 x.2.1))⟩

end Go.Proofs.Ytijolcgmciclhaa

set_option linter.unusedVariables false
set_option linter.unusedSimpArgs false
namespace Go.Proofs.Ytijolcgmciclhaa
open Go.Vm

theorem rd_spc (l : List MSpc) (k : Int) : rdL (e := S_SpcSpec) l k = l.getD k.toNat ([], 0) := rfl
end Go.Proofs.Ytijolcgmciclhaa

set_option linter.unusedVariables false
set_option linter.unusedSimpArgs false
namespace Go.Proofs.Ytijolcgmciclhaa
open Go.Vm
theorem rdL_set {S : Sh} {l : List S.den} {i : Nat} {x : S.den} (h : i < l.length) : rdL (e := S) (l.set i x) (i : Int) = x := by
  unfold rdL
  rw [Int.toNat_natCast, List.getD_eq_getElem?_getD, List.getElem?_set_self h]; rfl
end Go.Proofs.Ytijolcgmciclhaa

set_option linter.unusedVariables false
set_option linter.unusedSimpArgs false
namespace Go.Proofs.Ytijolcgmciclhaa
open Go.Vm
def smT (t : MTst) : Bool := decide (t.2.2.2.2.length ≤ 4294967296)
theorem p_clone {α : Type} (l : List α) (hl : l.length ≤ 4294967296) : (bif (List.isEmpty l) then (agree (some (([] : List α), ())) (bif (fitL [] l) then (some ((List.append [] l), ())) else none)) else (bif (fitL [] l) then (some ((List.append [] l), ())) else none)) = some (l, ()) := by
  rw [fitL_eq (by show 0 + l.length ≤ _; omega)]
  cases l with
  | nil => unfold agree; exact if_pos rfl
  | cons a r => rfl
theorem p_turn {β : Type} (a b c : Bool) (A B : β) : (bif (bif a then false else true) then B else (bif (bif b then false else true) then B else (bif (bif c then false else true) then B else A))) = bif a && (b && c) then A else B := by
  cases a <;> cases b <;> cases c <;> rfl
theorem s_gClone_DecDec : C_gClone_DecDec (fun x => decide (List.length x.1 ≤ 4294967296)) (fun x => (x.1, ())) := S_gClone_DecDec fun x hx => ⟨0, (ev_gClone_DecDec 0 x.1).trans (p_clone (α := MDec) x.1 (of_decide_eq_true hx))⟩
theorem s_iTstTest_copied : C_iTstTest_copied (fun x => smT x.1) (fun x => (x.1, ())) := S_iTstTest_copied s_gClone_DecDec fun x hx => ⟨0, (ev_iTstTest_copied 0 x.1).trans (cl_eq hx)⟩
theorem s_sl5Copy : C_sl5Copy (fun x => smT x.1) (fun x => (x.1, ())) := S_sl5Copy fun x hx => ⟨0, (ev_sl5Copy 0 x.1).trans (by
  rw [fitL_eq (by have : List.length x.1.2.2.2.2 ≤ 4294967296 := of_decide_eq_true hx; show 0 + List.length x.1.2.2.2.2 ≤ _; omega)]; rfl)⟩
theorem s_iTstMore_c1 : C_iTstMore_c1 (fun x => decide (List.length x.1.2.2.2.2 + 1 ≤ 4294967296)) (fun x => (((x.1.1, x.1.2.1, x.1.2.2.1, x.1.2.2.2.1, x.1.2.2.2.2 ++ [x.2.1]) : MTst), ())) := S_iTstMore_c1 fun x hx => ⟨0, (ev_iTstMore_c1 0 x.1 x.2.1).trans (by rw [fitL_eq (of_decide_eq_true hx)]; rfl)⟩
theorem ok_len {t : MTst} (h : tstOk t = true) : t.2.2.2.2.length ≤ 2 := (tsPre_iff.1 (tsPre_of (tstOk_iff.1 h).1)).2.2.2
theorem s_sTstPut : C_sTstPut (fun x => smT x.1) (fun x => ((tstPut x.1 x.2.1).1, (tstPut x.1 x.2.1).2, ())) := S_sTstPut s_sl5Copy s_sTstOk s_sDecOk s_sl5State fun x hx => ⟨0, (ev_sTstPut 0 x.1 x.2.1).trans (by
  obtain ⟨t, v, u⟩ := x
  change MTst at t
  change MDec at v
  have hx : smT t = true := hx
  show cl (smT t) (t, ()) _ = some ((tstPut t v).1, (tstPut t v).2, ())
  simp only [cl, hx, cond_true]
  cases hc : (tstOk t && (decide (t.2.1 = (0 : Int)) && decOk v))
  · have e : tstPut t v = (t, false) := by unfold tstPut; rw [hc]; rfl
    rw [e]
    cases h1 : tstOk t
    · rfl
    · cases h2 : decide (t.2.1 = (0 : Int))
      · cases decOk v <;> rfl
      · cases h3 : decOk v
        · rfl
        · rw [h1, h2, h3] at hc; cases hc
  · have e : tstPut t v = (mkT t.1 v t.2.2.2.1 t.2.2.2.2, true) := by unfold tstPut; rw [hc]; rfl
    rw [e]
    simp only [Bool.and_eq_true, decide_eq_true_eq] at hc
    obtain ⟨h1, h2, h3⟩ := hc
    have hp : tsPre ((t.1, t.2.1, v, t.2.2.2) : MTst) = true := mkT_pre (put_ok h1 h2 h3)
    simp only [h1, decide_eq_true h2, h3, hp, cond_true, cond_false]
    rfl)⟩
theorem s_sTstCause : C_sTstCause (fun x => smT x.1) (fun x => ((tstCause x.1 x.2.1).1, (tstCause x.1 x.2.1).2, ())) := S_sTstCause s_sl5Copy s_sTstOk s_sl1In s_sl5State fun x hx => ⟨0, (ev_sTstCause 0 x.1 x.2.1).trans (by
  obtain ⟨t, v, u⟩ := x
  change MTst at t
  change Int at v
  have hx : smT t = true := hx
  show cl (smT t) (t, ()) _ = some ((tstCause t v).1, (tstCause t v).2, ())
  simp only [cl, hx, cond_true]
  cases hc : (tstOk t && (decide (t.2.1 = (1 : Int)) && inq v 1 3))
  · have e : tstCause t v = (t, false) := by unfold tstCause; rw [hc]; rfl
    rw [e]
    cases h1 : tstOk t
    · rfl
    · cases h2 : decide (t.2.1 = (1 : Int))
      · cases inq v 1 3 <;> rfl
      · cases h3 : inq v 1 3
        · rfl
        · rw [h1, h2, h3] at hc; cases hc
  · have e : tstCause t v = (mkT t.1 t.2.2.1 v t.2.2.2.2, true) := by unfold tstCause; rw [hc]; rfl
    rw [e]
    simp only [Bool.and_eq_true, decide_eq_true_eq] at hc
    obtain ⟨h1, h2, h3⟩ := hc
    have hp : tsPre ((t.1, t.2.1, t.2.2.1, v, t.2.2.2.2) : MTst) = true := mkT_pre (cause_ok h1 h2 h3)
    simp only [h1, decide_eq_true h2, h3, hp, cond_true, cond_false]
    rfl)⟩
theorem s_iturned__iTstMore_c1 : C_iturned__iTstMore_c1 (fun x => smT x.1 && (decide (x.2.1 = 2) && (x.2.2.1 == decOk x.2.2.2.1.1))) (fun x => ((tstMore x.1 x.2.2.2.1.1).1, (tstMore x.1 x.2.2.2.1.1).2, ())) := S_iturned__iTstMore_c1 s_iTstTest_copied s_iTstOk s_iTstMore_c1 s_iTstTest_told fun x hx => ⟨0, (ev_iturned__iTstMore_c1 0 x.1 x.2.1 x.2.2.1 x.2.2.2.1).trans (by
  simp only [Bool.and_eq_true, decide_eq_true_eq, beq_iff_eq] at hx
  obtain ⟨t, st, may, ⟨v, u⟩, u2⟩ := x
  obtain ⟨hx, h4, h5⟩ := hx
  change MTst at t
  change MDec at v
  change st = (2 : Int) at h4
  change may = decOk v at h5
  subst h4 h5
  have hx : smT t = true := hx
  have hx' : decide (List.length t.2.2.2.2 ≤ 4294967296) = true := hx
  show cl (smT t) (t, ()) _ = some ((tstMore t v).1, (tstMore t v).2, ())
  simp only [cl, hx, hx', cond_true]
  cases hc : (tstOk t && (decide (t.2.1 = (2 : Int)) && decOk v))
  · have e : tstMore t v = (t, false) := by unfold tstMore; rw [hc]; rfl
    rw [e]
    have := p_turn (tstOk t) (decide (t.2.1 = (2 : Int))) (decOk v) (none : Option (MTst × Bool × Unit)) (some (t, false, ()))
    rw [hc] at this
    cases h1 : tstOk t
    · rfl
    · cases h2 : decide (t.2.1 = (2 : Int))
      · rfl
      · cases h3 : decOk v
        · rfl
        · rw [h1, h2, h3] at hc; cases hc
  · have e : tstMore t v = (mkT t.1 t.2.2.1 t.2.2.2.1 (t.2.2.2.2 ++ [v]), true) := by unfold tstMore; rw [hc]; rfl
    rw [e]
    simp only [Bool.and_eq_true, decide_eq_true_eq] at hc
    obtain ⟨h1, h2, h3⟩ := hc
    have hl := ok_len h1
    have hl' : decide (List.length t.2.2.2.2 + 1 ≤ 4294967296) = true := decide_eq_true (by omega)
    have hf : fitL t.2.2.2.2 [v] = true := fitL_eq (by show t.2.2.2.2.length + 1 ≤ _; omega)
    have hp : tsPre ((t.1, t.2.1, t.2.2.1, t.2.2.2.1, t.2.2.2.2 ++ [v]) : MTst) = true := mkT_pre (more_ok h1 h2 h3)
    simp only [h1, decide_eq_true h2, h3, hp, hl', cond_true, cond_false]
    rfl)⟩
theorem s_iTstMore : C_iTstMore (fun x => smT x.1) (fun x => ((tstMore x.1 x.2.1).1, (tstMore x.1 x.2.1).2, ())) := S_iTstMore s_iDecOk s_iturned__iTstMore_c1 fun x hx => ⟨0, (ev_iTstMore 0 x.1 x.2.1).trans (cl_eq (by
  have hx : smT x.1 = true := hx
  show (smT x.1 && (decide ((2 : Int) = 2) && (decOk x.2.1 == decOk x.2.1))) = true
  rw [hx, beq_self_eq_true]; rfl))⟩
theorem s_sTstMore : C_sTstMore (fun x => smT x.1) (fun x => ((tstMore x.1 x.2.1).1, (tstMore x.1 x.2.1).2, ())) := S_sTstMore s_sl5Copy s_sTstOk s_sDecOk s_sl5State fun x hx => ⟨0, (ev_sTstMore 0 x.1 x.2.1).trans (by
  obtain ⟨t, v, u⟩ := x
  change MTst at t
  change MDec at v
  have hx : smT t = true := hx
  show cl (smT t) (t, ()) _ = some ((tstMore t v).1, (tstMore t v).2, ())
  simp only [cl, hx, cond_true]
  cases hc : (tstOk t && (decide (t.2.1 = (2 : Int)) && decOk v))
  · have e : tstMore t v = (t, false) := by unfold tstMore; rw [hc]; rfl
    rw [e]
    cases h1 : tstOk t
    · rfl
    · cases h2 : decide (t.2.1 = (2 : Int))
      · cases decOk v <;> rfl
      · cases h3 : decOk v
        · rfl
        · rw [h1, h2, h3] at hc; cases hc
  · have e : tstMore t v = (mkT t.1 t.2.2.1 t.2.2.2.1 (t.2.2.2.2 ++ [v]), true) := by unfold tstMore; rw [hc]; rfl
    rw [e]
    simp only [Bool.and_eq_true, decide_eq_true_eq] at hc
    obtain ⟨h1, h2, h3⟩ := hc
    have hl := ok_len h1
    have hl' : decide (List.length t.2.2.2.2 + 1 ≤ 4294967296) = true := decide_eq_true (by omega)
    have hf : fitL t.2.2.2.2 [v] = true := fitL_eq (by show t.2.2.2.2.length + 1 ≤ _; omega)
    have hp : tsPre ((t.1, t.2.1, t.2.2.1, t.2.2.2.1, t.2.2.2.2 ++ [v]) : MTst) = true := mkT_pre (more_ok h1 h2 h3)
    simp only [h1, decide_eq_true h2, h3, hp, hf, cond_true, cond_false]
    exact (congrArg (fun b => bif b then _ else none) hp).trans rfl)⟩

end Go.Proofs.Ytijolcgmciclhaa

set_option linter.unusedVariables false
set_option linter.unusedSimpArgs false
namespace Go.Proofs.Ytijolcgmciclhaa
open Go.Vm
theorem smT_of {t : MTst} {n : Nat} (h : List.length t.2.2.2.2 ≤ n) (hn : n ≤ 4294967296) : smT t = true := decide_eq_true (Nat.le_trans h hn)
theorem x_sl20Value : ∃ fn : In_sl20Value → Out_sl20Value, ∀ x, (fun x : In_sl20Value => rdB 2 x.1) x = true → (∃ k, E_sl20Value (fun x => (decAt x.1 x.2.1, ())) d_sl20Rd_pick (fun x => rdB 1 x.1) k x = some (fn x)) ∧ (fun (x : In_sl20Value) (v : Out_sl20Value) => Step 2 x.1 v.2.1 ∧ True) x (fn x) := by
  refine choose_fn (fun k x => E_sl20Value (fun x => (decAt x.1 x.2.1, ())) d_sl20Rd_pick (fun x => rdB 1 x.1) k x) (fun x : In_sl20Value => rdB 2 x.1) (fun (x : In_sl20Value) (v : Out_sl20Value) => Step 2 x.1 v.2.1 ∧ True) ((0, 0), (([], 0), ())) fun x hx => ?_
  have key : ∀ (r0 : MRd) (a1 : MAsk), RdOk 2 r0 → Gets (E_sl20Value (fun x => (decAt x.1 x.2.1, ())) d_sl20Rd_pick (fun x => rdB 1 x.1) 0 (r0, a1, ())) (fun v => Step 2 r0 v.2.1 ∧ True) := by
    intro r0 a1 h0
    have hs := Step.refl r0
    rw [ev_sl20Value 0 r0 a1]
    repeat' first
      | refine then_go (Q := PickQ) q_sl20Rd_pick h0 rfl (by assumption) (by decide) fun y r' hq hs => ?_
      | refine gets_cl (pick_le (by assumption) (by decide) (by decide)) ?_
      | refine gets_need (pick_le (by assumption) (by decide) (by decide)) ?_
      | refine gets_need (pick_ix (by assumption) (by decide) (by exact Int.le_refl _)) ?_
      | exact gets_some ⟨Step.mono (by assumption) (by decide), trivial⟩
      | refine gets_both (fun hc => ?_) fun hc => ?_
  exact ⟨0, key x.1 x.2.1 (rdB_iff.1 hx)⟩
noncomputable def d_sl20Value := Classical.choose x_sl20Value
theorem c_sl20Value (x : In_sl20Value) (hx : (fun x : In_sl20Value => rdB 2 x.1) x = true) : (fun (x : In_sl20Value) (v : Out_sl20Value) => Step 2 x.1 v.2.1 ∧ True) x (d_sl20Value x) := (Classical.choose_spec x_sl20Value x hx).2
theorem s_sl20Value : C_sl20Value (fun x => rdB 2 x.1) d_sl20Value := S_sl20Value s_sDecAt s_sl20Rd_pick fun x hx => (Classical.choose_spec x_sl20Value x hx).1
theorem q_sl20Value (r : MRd) (a : MAsk × Unit) (h : RdOk 2 r) : Step 2 r (d_sl20Value (r, a)).2.1 ∧ (True) := c_sl20Value (r, a) (rdB_iff.2 h)
theorem x_sl20Tst : ∃ fn : In_sl20Tst → Out_sl20Tst, ∀ x, (fun x : In_sl20Tst => rdB 40 x.1) x = true → (∃ k, E_sl20Tst d_sl20Rd_pick (fun x => rdB 1 x.1) d_sl20Ask (fun x => rdB 14 x.1) (fun x => ((x.1, 0, (0, 0), 0, []), ())) d_sl20Value (fun x => rdB 2 x.1) (fun x => ((tstPut x.1 x.2.1).1, (tstPut x.1 x.2.1).2, ())) (fun x => smT x.1) (fun x => ((tstCause x.1 x.2.1).1, (tstCause x.1 x.2.1).2, ())) (fun x => smT x.1) (fun x => ((tstMore x.1 x.2.1).1, (tstMore x.1 x.2.1).2, ())) (fun x => smT x.1) d_sl20Dec (fun x => rdB 7 x.1) k x = some (fn x)) ∧ (fun (x : In_sl20Tst) (v : Out_sl20Tst) => Step 40 x.1 v.2.1 ∧ List.length v.1.2.2.2.2 ≤ 3) x (fn x) := by
  refine choose_fn (fun k x => E_sl20Tst d_sl20Rd_pick (fun x => rdB 1 x.1) d_sl20Ask (fun x => rdB 14 x.1) (fun x => ((x.1, 0, (0, 0), 0, []), ())) d_sl20Value (fun x => rdB 2 x.1) (fun x => ((tstPut x.1 x.2.1).1, (tstPut x.1 x.2.1).2, ())) (fun x => smT x.1) (fun x => ((tstCause x.1 x.2.1).1, (tstCause x.1 x.2.1).2, ())) (fun x => smT x.1) (fun x => ((tstMore x.1 x.2.1).1, (tstMore x.1 x.2.1).2, ())) (fun x => smT x.1) d_sl20Dec (fun x => rdB 7 x.1) k x) (fun x : In_sl20Tst => rdB 40 x.1) (fun (x : In_sl20Tst) (v : Out_sl20Tst) => Step 40 x.1 v.2.1 ∧ List.length v.1.2.2.2.2 ≤ 3) (((0, (0, 0), (0, 0), 0), 0, (0, 0), 0, []), (([], 0), ())) fun x hx => ?_
  have key : ∀ (r0 : MRd) (n0 : Int), RdOk 40 r0 → Gets (E_sl20Tst d_sl20Rd_pick (fun x => rdB 1 x.1) d_sl20Ask (fun x => rdB 14 x.1) (fun x => ((x.1, 0, (0, 0), 0, []), ())) d_sl20Value (fun x => rdB 2 x.1) (fun x => ((tstPut x.1 x.2.1).1, (tstPut x.1 x.2.1).2, ())) (fun x => smT x.1) (fun x => ((tstCause x.1 x.2.1).1, (tstCause x.1 x.2.1).2, ())) (fun x => smT x.1) (fun x => ((tstMore x.1 x.2.1).1, (tstMore x.1 x.2.1).2, ())) (fun x => smT x.1) d_sl20Dec (fun x => rdB 7 x.1) 5 (r0, n0, ())) (fun v => Step 40 r0 v.2.1 ∧ List.length v.1.2.2.2.2 ≤ 3) := by
    intro r0 n0 h0
    have hs := Step.refl r0
    rw [ev_sl20Tst 5 r0 n0]
    refine then_go (Q := PickQ) q_sl20Rd_pick h0 rfl hs (by decide) fun y0 r' hq hs => ?_
    refine then_go (Q := fun a y => True) q_sl20Ask h0 rfl hs (by decide) fun a r' _ hs => ?_
    refine then_go (Q := PickQ) q_sl20Rd_pick h0 rfl hs (by decide) fun y2 r' hq2 hs => ?_
    have hn1 : 0 ≤ y2 := hq2.1
    have hn2 : y2 < 5 := hq2.2 (show (1 : Int) ≤ 5 by decide)
    obtain ⟨n, hn⟩ : ∃ n : Nat, y2 = (n : Int) := ⟨y2.toNat, by omega⟩
    subst hn
    obtain ⟨e, he⟩ : ∃ e : Nat, 5 = e + (n + 1) := ⟨4 - n, by omega⟩
    rw [he]
    have ge := gets_loop (σ := MRd × MTst) (fun k i s => r_sl20Tst d_sl20Rd_pick (fun x => rdB 1 x.1) d_sl20Ask (fun x => rdB 14 x.1) (fun x => ((x.1, 0, (0, 0), 0, []), ())) d_sl20Value (fun x => rdB 2 x.1) (fun x => ((tstPut x.1 x.2.1).1, (tstPut x.1 x.2.1).2, ())) (fun x => smT x.1) (fun x => ((tstCause x.1 x.2.1).1, (tstCause x.1 x.2.1).2, ())) (fun x => smT x.1) (fun x => ((tstMore x.1 x.2.1).1, (tstMore x.1 x.2.1).2, ())) (fun x => smT x.1) d_sl20Dec (fun x => rdB 7 x.1) (r0, n0, ()) (e + k) [false, true, false, true, true] (h0_sl20Tst r0 n0 ((n - i : Nat) : Int) ((0 : Int), (((0 : Int), (0 : Int)), (((0 : Int), (0 : Int)), (0 : Int)))) (0 : Int) ((0 : Int), (0 : Int)) (0 : Int) [] s.2.1 s.2.2.1 s.2.2.2.1 s.2.2.2.2.1 s.2.2.2.2.2 s.1)) (fun v => Step 40 r0 v.2.1 ∧ List.length v.1.2.2.2.2 ≤ 3) (fun i s => i ≤ n ∧ Step (16 + 2 * i) r0 s.1 ∧ List.length s.2.2.2.2.2 ≤ 2) n (fun k s hs => ?_) (fun k i s hi hs next => ?_) n 0 (r', (a, 0, (0, 0), 0, [])) (by omega) ⟨Nat.zero_le _, hs, Nat.zero_le _⟩
    · exact ge
    · obtain ⟨r, t⟩ := s
      obtain ⟨_, hs, hl⟩ := hs
      have hs : Step (16 + 2 * n) r0 r := hs
      have hl : List.length t.2.2.2.2 ≤ 2 := hl
      have hs : Step 24 r0 r := hs.mono (by omega)
      have z : ((n - n : Nat) : Int) = 0 := by omega
      show Gets (r_sl20Tst d_sl20Rd_pick (fun x => rdB 1 x.1) d_sl20Ask (fun x => rdB 14 x.1) (fun x => ((x.1, 0, (0, 0), 0, []), ())) d_sl20Value (fun x => rdB 2 x.1) (fun x => ((tstPut x.1 x.2.1).1, (tstPut x.1 x.2.1).2, ())) (fun x => smT x.1) (fun x => ((tstCause x.1 x.2.1).1, (tstCause x.1 x.2.1).2, ())) (fun x => smT x.1) (fun x => ((tstMore x.1 x.2.1).1, (tstMore x.1 x.2.1).2, ())) (fun x => smT x.1) d_sl20Dec (fun x => rdB 7 x.1) (r0, n0, ()) (e + k + 1) [false, true, false, true, true] (h0_sl20Tst r0 n0 ((n - n : Nat) : Int) ((0 : Int), (((0 : Int), (0 : Int)), (((0 : Int), (0 : Int)), (0 : Int)))) (0 : Int) ((0 : Int), (0 : Int)) (0 : Int) [] t.1 t.2.1 t.2.2.1 t.2.2.2.1 t.2.2.2.2 r)) _
      rw [z, rd0_sl20Tst]
      refine gets_both (fun h => absurd (of_decide_eq_true h) (by decide)) fun _ => ?_
      have hl3 : List.length t.2.2.2.2 ≤ 3 := Nat.le_trans hl (by decide)
      refine then_go (Q := PickQ) q_sl20Rd_pick h0 rfl hs (by decide) fun y6 r' _ hs => ?_
      refine gets_both (fun _ => gets_some ⟨hs.mono (by decide), hl3⟩) fun _ => ?_
      refine then_go (Q := PickQ) q_sl20Rd_pick h0 rfl hs (by decide) fun y7 r' _ hs => ?_
      refine gets_both (fun _ => ?_) fun _ => ?_
      · exact then_go (Q := PickQ) q_sl20Rd_pick h0 rfl hs (by decide) fun y8 r' _ hs => gets_some ⟨hs.mono (by decide), hl3⟩
      refine gets_both (fun _ => ?_) fun _ => ?_
      · exact then_go (Q := fun a y => True) q_sl20Dec h0 rfl hs (by decide) fun y8 r' _ hs => gets_some ⟨hs.mono (by decide), hl3⟩
      refine gets_both (fun _ => ?_) fun _ => ?_
      · exact then_go (Q := PickQ) q_sl20Rd_pick h0 rfl hs (by decide) fun y8 r' _ hs => gets_some ⟨hs.mono (by decide), hl3⟩
      refine gets_both (fun _ => ?_) fun _ => ?_
      · refine then_go (Q := fun a y => True) q_sl20Dec h0 rfl hs (by decide) fun y8 r' _ hs => gets_need (fitL_eq (by show t.2.2.2.2.length + 1 ≤ _; omega)) (gets_some ⟨hs.mono (by decide), ?_⟩)
        show List.length (t.2.2.2.2 ++ [y8]) ≤ 3
        rw [List.length_append]; show t.2.2.2.2.length + 1 ≤ 3; omega
      · exact then_go (Q := fun a y => True) q_sl20Ask h0 rfl hs (by decide) fun y8 r' _ hs => gets_some ⟨hs.mono (by decide), hl3⟩
    · obtain ⟨r, t⟩ := s
      obtain ⟨_, hs, hl⟩ := hs
      have hs : Step (16 + 2 * i) r0 r := hs
      have hl : List.length t.2.2.2.2 ≤ 2 := hl
      have hp : smT t = true := smT_of hl (by decide)
      have hw : w64 (((n - i : Nat) : Int) - 1) = ((n - (i + 1) : Nat) : Int) := by rw [w64_eq (by omega) (by omega)]; omega
      show Gets (r_sl20Tst d_sl20Rd_pick (fun x => rdB 1 x.1) d_sl20Ask (fun x => rdB 14 x.1) (fun x => ((x.1, 0, (0, 0), 0, []), ())) d_sl20Value (fun x => rdB 2 x.1) (fun x => ((tstPut x.1 x.2.1).1, (tstPut x.1 x.2.1).2, ())) (fun x => smT x.1) (fun x => ((tstCause x.1 x.2.1).1, (tstCause x.1 x.2.1).2, ())) (fun x => smT x.1) (fun x => ((tstMore x.1 x.2.1).1, (tstMore x.1 x.2.1).2, ())) (fun x => smT x.1) d_sl20Dec (fun x => rdB 7 x.1) (r0, n0, ()) (e + k + 1) [false, true, false, true, true] (h0_sl20Tst r0 n0 ((n - i : Nat) : Int) ((0 : Int), (((0 : Int), (0 : Int)), (((0 : Int), (0 : Int)), (0 : Int)))) (0 : Int) ((0 : Int), (0 : Int)) (0 : Int) [] t.1 t.2.1 t.2.2.1 t.2.2.2.1 t.2.2.2.2 r)) _
      rw [rd0_sl20Tst, hw]
      refine gets_both (fun _ => ?_) fun h => absurd (show (0 : Int) < ((n - i : Nat) : Int) by omega) (of_decide_eq_false h)
      refine gets_both (fun _ => ?_) fun _ => ?_
      · refine then_go (Q := fun a y => True) q_sl20Value h0 rfl hs (by omega) fun v r' _ hs => gets_cl hp ?_
        exact next (r', (tstPut t v).1) ⟨by omega, hs.mono (by omega), by rw [len_put]; exact hl⟩
      refine gets_both (fun _ => ?_) fun _ => ?_
      · refine then_go (Q := PickQ) q_sl20Rd_pick h0 rfl hs (by omega) fun v r' _ hs => gets_cl hp ?_
        exact next (r', (tstCause t (w64 ((1 : Int) + v))).1) ⟨by omega, hs.mono (by omega), by rw [len_cause]; exact hl⟩
      refine gets_both (fun _ => ?_) fun _ => ?_
      · refine then_go (Q := fun a y => True) q_sl20Value h0 rfl hs (by omega) fun v r' _ hs => gets_cl hp ?_
        exact next (r', (tstMore t v).1) ⟨by omega, hs.mono (by omega), len_more hl (Nat.le_refl _)⟩
      · exact next (r, t) ⟨by omega, hs.mono (by omega), hl⟩
  exact ⟨5, key x.1 x.2.1 (rdB_iff.1 hx)⟩
noncomputable def d_sl20Tst := Classical.choose x_sl20Tst
theorem c_sl20Tst (x : In_sl20Tst) (hx : (fun x : In_sl20Tst => rdB 40 x.1) x = true) : (fun (x : In_sl20Tst) (v : Out_sl20Tst) => Step 40 x.1 v.2.1 ∧ List.length v.1.2.2.2.2 ≤ 3) x (d_sl20Tst x) := (Classical.choose_spec x_sl20Tst x hx).2
theorem s_sl20Tst : C_sl20Tst (fun x => rdB 40 x.1) d_sl20Tst := S_sl20Tst s_sl20Rd_pick s_sl20Ask s_sTstNew s_sl20Value s_sTstPut s_sTstCause s_sTstMore s_sl20Dec fun x hx => (Classical.choose_spec x_sl20Tst x hx).1
theorem q_sl20Tst (r : MRd) (a : Int × Unit) (h : RdOk 40 r) : Step 40 r (d_sl20Tst (r, a)).2.1 ∧ List.length (d_sl20Tst (r, a)).1.2.2.2.2 ≤ 3 := c_sl20Tst (r, a) (rdB_iff.2 h)
end Go.Proofs.Ytijolcgmciclhaa

set_option linter.unusedVariables false
set_option linter.unusedSimpArgs false
namespace Go.Proofs.Ytijolcgmciclhaa
open Go.Vm
theorem p_batNew {k n : Int} {l : List MAsk} (A : Option (MBat × Unit)) (hA : inq k 0 5 = true → testsOk l = true → inq n 1 10000 = true → A = some ((k, n, l.map newT, 1, [], []), ())) :
    (bif (bif inq k 0 5 then false else true) then (some (((0 : Int), ((0 : Int), ([], ((0 : Int), ([], []))))), ())) else (bif (bif testsOk l then false else true) then (some (((0 : Int), ((0 : Int), ([], ((0 : Int), ([], []))))), ())) else (bif (bif inq n 1 10000 then false else true) then (some (((0 : Int), ((0 : Int), ([], ((0 : Int), ([], []))))), ())) else A))) = some (batNew k l n, ()) := by
  unfold batNew
  cases h1 : inq k 0 5
  · rfl
  · cases h2 : testsOk l
    · rfl
    · cases h3 : inq n 1 10000
      · rfl
      · exact hA h1 h2 h3
theorem beq_sig (a b : MSig) : Sh.beq S_BatSig a b = same a b := by
  show (decide (a.1 = b.1) && (decide (a.2.1 = b.2.1) && decide (a.2.2 = b.2.2))) = _
  simp only [same_int, same_pair]
theorem beq_bool (a b : Bool) : (a == b) = same a b := by
  cases a <;> cases b <;> first | exact (same_self _).symm | exact (same_false (by decide)).symm
theorem same_bat (a b : MBat) : same a b = (same a.1 b.1 && (same a.2.1 b.2.1 && (same a.2.2.2.1 b.2.2.2.1 && (same a.2.2.1 b.2.2.1 && (same a.2.2.2.2.1 b.2.2.2.2.1 && same a.2.2.2.2.2 b.2.2.2.2.2))))) := by
  rw [show same a b = same (a.1, a.2.1, a.2.2.1, a.2.2.2.1, a.2.2.2.2.1, a.2.2.2.2.2) (b.1, b.2.1, b.2.2.1, b.2.2.2.1, b.2.2.2.2.1, b.2.2.2.2.2) from rfl, ← same_pair, ← same_pair, ← same_pair, ← same_pair, ← same_pair]
  cases same a.1 b.1 <;> cases same a.2.1 b.2.1 <;> cases same a.2.2.1 b.2.2.1 <;> cases same a.2.2.2.1 b.2.2.2.1 <;> rfl
theorem mixPre_of {m : Int} {l : List Int} (h : mkR m) (hl : l.length ≤ 4) : mixPre m l = true := mixPre_iff.2 ⟨h, by omega⟩
theorem foldI_mores : ∀ (l : List MDec) (i : Nat) (m : Int), foldI (fun _ m (v : MDec) => mix (mix m v.1) v.2) i m l = markMore m l
  | [], i, m => rfl
  | v :: r, i, m => foldI_mores r (i + 1) _
theorem foldI_tsts : ∀ (l : List MTst) (i : Nat) (m : Int), foldI (fun _ m t => markTst m t) i m l = markTsts m l
  | [], i, m => rfl
  | v :: r, i, m => foldI_tsts r (i + 1) _
theorem foldI_devs : ∀ (l : List Bool) (i : Nat) (m : Int), foldI (fun i m d => markDev m i d) i m l = markDevs i m l
  | [], i, m => rfl
  | v :: r, i, m => foldI_devs r (i + 1) _
theorem okA_smB {b : MBat} (h1 : inq b.2.2.1.length 1 4 = true) (ht : b.2.2.1.all tstOk = true) (hs : b.2.2.2.2.1.length ≤ 6) (hd : b.2.2.2.2.2.length ≤ 3) : smB b = true := by
  have := inq_iff.1 h1
  refine smB_iff.2 ⟨by omega, fun t hm => ?_, by omega, by omega⟩
  have := tstOk_len (List.all_eq_true.1 ht t hm)
  omega
end Go.Proofs.Ytijolcgmciclhaa

set_option linter.unusedVariables false
set_option linter.unusedSimpArgs false
namespace Go.Proofs.Ytijolcgmciclhaa
open Go.Vm
/-- Where a letter stands in a word. -/
def wordAt (s w : ByteArray) : Int := bif s.data.toList == w.data.toList then 0 else Go.Lib.indexByte s.data.toList (strAt w 0).toNat.toUInt8
def one1 (w : ByteArray) : Bool := decide (w.data.toList.length = 1)
theorem one_size {w : ByteArray} (h : one1 w = true) : ByteArray.size w = 1 := by
  have h : w.data.toList.length = 1 := of_decide_eq_true h
  rw [← h]; rfl
abbrev MMan : Type := ByteArray × List Int × ByteArray
def by0 : ByteArray := ByteArray.mk (Array.mk [])
def mans : List MMan := [((ByteArray.mk (Array.mk [])), ([], (ByteArray.mk (Array.mk [])))), ((ByteArray.mk (Array.mk [(100 : UInt8), (114 : UInt8), (97 : UInt8), (102 : UInt8), (116 : UInt8)])), ([(4 : Int)], (ByteArray.mk (Array.mk [])))), ((ByteArray.mk (Array.mk [(114 : UInt8), (97 : UInt8), (105 : UInt8), (115 : UInt8), (101 : UInt8)])), ([(4 : Int)], (ByteArray.mk (Array.mk [(78 : UInt8)])))), ((ByteArray.mk (Array.mk [(116 : UInt8), (97 : UInt8), (107 : UInt8), (101 : UInt8)])), ([(1 : Int), (2 : Int)], (ByteArray.mk (Array.mk [(78 : UInt8)])))), ((ByteArray.mk (Array.mk [(112 : UInt8), (117 : UInt8), (116 : UInt8)])), ([(1 : Int), (2 : Int)], (ByteArray.mk (Array.mk [(66 : UInt8), (84 : UInt8), (86 : UInt8)])))), ((ByteArray.mk (Array.mk [(99 : UInt8), (97 : UInt8), (117 : UInt8), (115 : UInt8), (101 : UInt8)])), ([(2 : Int), (3 : Int)], (ByteArray.mk (Array.mk [(66 : UInt8), (84 : UInt8), (78 : UInt8)])))), ((ByteArray.mk (Array.mk [(109 : UInt8), (111 : UInt8), (114 : UInt8), (101 : UInt8)])), ([(1 : Int), (2 : Int)], (ByteArray.mk (Array.mk [(66 : UInt8), (84 : UInt8), (86 : UInt8)])))), ((ByteArray.mk (Array.mk [(111 : UInt8), (112 : UInt8), (101 : UInt8), (110 : UInt8)])), ([(1 : Int), (2 : Int)], (ByteArray.mk (Array.mk [(66 : UInt8)])))), ((ByteArray.mk (Array.mk [(99 : UInt8), (108 : UInt8), (111 : UInt8), (115 : UInt8), (101 : UInt8)])), ([(2 : Int), (3 : Int)], (ByteArray.mk (Array.mk [(66 : UInt8), (78 : UInt8)])))), ((ByteArray.mk (Array.mk [(115 : UInt8), (105 : UInt8), (103 : UInt8), (110 : UInt8)])), ([(2 : Int), (3 : Int)], (ByteArray.mk (Array.mk [(66 : UInt8)])))), ((ByteArray.mk (Array.mk [(102 : UInt8), (114 : UInt8), (101 : UInt8), (101 : UInt8)])), ([(3 : Int)], (ByteArray.mk (Array.mk [(66 : UInt8)])))), ((ByteArray.mk (Array.mk [(114 : UInt8), (101 : UInt8), (102 : UInt8), (117 : UInt8), (115 : UInt8), (101 : UInt8)])), ([(3 : Int)], (ByteArray.mk (Array.mk [(66 : UInt8)])))), ((ByteArray.mk (Array.mk [(114 : UInt8), (101 : UInt8), (99 : UInt8), (97 : UInt8), (108 : UInt8), (108 : UInt8)])), ([(3 : Int)], (ByteArray.mk (Array.mk [(66 : UInt8)]))))]
def manOf (k : Int) : MMan := if inq k 1 12 = true then mans.getD k.toNat (by0, [], by0) else (by0, [], by0)
theorem kinds {k : Int} (h : inq k 1 12 = true) : k = 1 ∨ k = 2 ∨ k = 3 ∨ k = 4 ∨ k = 5 ∨ k = 6 ∨ k = 7 ∨ k = 8 ∨ k = 9 ∨ k = 10 ∨ k = 11 ∨ k = 12 := by
  have := inq_iff.1 h; omega
/-- What is known of a kind. -/
theorem man_word (k : Int) : (ByteArray.toList (manOf k).1 == ByteArray.toList by0) = !inq k 1 12 := by
  rw [ByteArray.toList_eq, ByteArray.toList_eq]
  cases h : inq k 1 12
  · unfold manOf; rw [h]; rfl
  · rcases kinds h with rfl | rfl | rfl | rfl | rfl | rfl | rfl | rfl | rfl | rfl | rfl | rfl <;> rfl
theorem man_has (k : Int) : decide (0 ≤ wordAt (manOf k).2.2 (ByteArray.mk (Array.mk [(66 : UInt8)]))) = hasB k ∧ decide (0 ≤ wordAt (manOf k).2.2 (ByteArray.mk (Array.mk [(78 : UInt8)]))) = hasN k ∧ decide (0 ≤ wordAt (manOf k).2.2 (ByteArray.mk (Array.mk [(86 : UInt8)]))) = hasV k ∧ decide (0 ≤ wordAt (manOf k).2.2 (ByteArray.mk (Array.mk [(84 : UInt8)]))) = hasT k := by
  cases h : inq k 1 12
  · have h' : ¬ (1 ≤ k ∧ k ≤ 12) := fun h2 => by rw [inq_iff.2 h2] at h; cases h
    have e : manOf k = (by0, [], by0) := by unfold manOf; rw [h]; rfl
    have b1 : hasB k = false := by unfold hasB; refine Bool.eq_false_iff.2 fun h2 => ?_; have := inq_iff.1 h2; omega
    have b2 : hasT k = false := by unfold hasT; refine Bool.eq_false_iff.2 fun h2 => ?_; have := inq_iff.1 h2; omega
    have b3 : hasN k = false := by unfold hasN; rw [decide_eq_false (by omega), decide_eq_false (by omega), decide_eq_false (by omega), decide_eq_false (by omega)]; rfl
    have b4 : hasV k = false := by unfold hasV; rw [decide_eq_false (by omega), decide_eq_false (by omega)]; rfl
    rw [e, b1, b2, b3, b4]
    exact ⟨rfl, rfl, rfl, rfl⟩
  · rcases kinds h with rfl | rfl | rfl | rfl | rfl | rfl | rfl | rfl | rfl | rfl | rfl | rfl <;> exact ⟨rfl, rfl, rfl, rfl⟩
theorem bif_let {c : Bool} {a b : Bool} : (bif c then (some (a, ())) else (some (b, ())) : Option (Bool × Unit)) = some (bif c then a else b, ()) := by cases c <;> rfl
theorem same_req (a b : MReq) : same a b = (same a.1 b.1 && (same a.2.1 b.2.1 && (same a.2.2.1 b.2.2.1 && (same a.2.2.2.1 b.2.2.2.1 && (same a.2.2.2.2.1 b.2.2.2.2.1 && (same a.2.2.2.2.2.1 b.2.2.2.2.2.1 && same a.2.2.2.2.2.2 b.2.2.2.2.2.2)))))) := by
  rw [show same a b = same (a.1, a.2.1, a.2.2.1, a.2.2.2.1, a.2.2.2.2.1, a.2.2.2.2.2.1, a.2.2.2.2.2.2) (b.1, b.2.1, b.2.2.1, b.2.2.2.1, b.2.2.2.2.1, b.2.2.2.2.2.1, b.2.2.2.2.2.2) from rfl, ← same_pair, ← same_pair, ← same_pair, ← same_pair, ← same_pair, ← same_pair]
/-- A request in the form of its kind. -/
def form8 (r : MReq) : MReq :=
  if r.2.1 = 1 then (r.1, r.2.1, 0, 0, 0, (0, 0), r.2.2.2.2.2.2) else if r.2.1 = 2 then (r.1, r.2.1, 0, 0, r.2.2.2.2.1, (0, 0), []) else if r.2.1 = 3 then (r.1, r.2.1, 0, 0, r.2.2.2.2.1, (0, 0), [])
  else if r.2.1 = 4 then (r.1, r.2.1, r.2.2.1, r.2.2.2.1, 0, r.2.2.2.2.2.1, []) else if r.2.1 = 6 then (r.1, r.2.1, r.2.2.1, r.2.2.2.1, 0, r.2.2.2.2.2.1, []) else if r.2.1 = 5 then (r.1, r.2.1, r.2.2.1, r.2.2.2.1, r.2.2.2.2.1, (0, 0), [])
  else if r.2.1 = 8 then (r.1, r.2.1, r.2.2.1, 0, r.2.2.2.2.1, (0, 0), []) else (r.1, r.2.1, r.2.2.1, 0, 0, (0, 0), [])
theorem bif_if {α : Type} {p : Prop} [Decidable p] {a b c : α} (hb : p → a = c) (hb2 : ¬ p → b = c) : (bif decide p then a else b) = c := by
  by_cases h : p
  · rw [decide_eq_true h]; exact hb h
  · rw [decide_eq_false h]; exact hb2 h
/-- It is in the form just if what it does not have is nothing. -/
theorem form_eq (r : MReq) : same r (form8 r) = ((decide (r.2.2.1 = 0) || hasB r.2.1 || (!inq r.2.1 1 12)) && (decide (r.2.2.2.2.1 = 0) || hasN r.2.1) && (same r.2.2.2.2.2.1 (0, 0) || hasV r.2.1) && (decide (r.2.2.2.1 = 0) || hasT r.2.1) && (decide (r.2.1 = 1) || decide (r.2.2.2.2.2.2.length = 0))) := by
  obtain ⟨u, k, b, t, n, v, l⟩ := r
  have hl : same l [] = decide (l.length = 0) := by
    cases l with
    | nil => rw [same_self]; rfl
    | cons a r => rw [same_false (by simp)]; rfl
  have h0 : ∀ x : Int, same x 0 = decide (x = 0) := fun x => (same_int x 0).symm
  show same ((u, k, b, t, n, v, l) : MReq) (form8 (u, k, b, t, n, v, l)) = ((decide (b = 0) || hasB k || (!inq k 1 12)) && (decide (n = 0) || hasN k) && (same v (0, 0) || hasV k) && (decide (t = 0) || hasT k) && (decide (k = 1) || decide (l.length = 0)))
  cases hk : inq k 1 12
  · have h' : ¬ (1 ≤ k ∧ k ≤ 12) := fun h2 => by rw [inq_iff.2 h2] at hk; cases hk
    have b2 : hasT k = false := by unfold hasT; refine Bool.eq_false_iff.2 fun h2 => ?_; have := inq_iff.1 h2; omega
    have b3 : hasN k = false := by unfold hasN; rw [decide_eq_false (by omega), decide_eq_false (by omega), decide_eq_false (by omega), decide_eq_false (by omega)]; rfl
    have b4 : hasV k = false := by unfold hasV; rw [decide_eq_false (by omega), decide_eq_false (by omega)]; rfl
    have e : form8 (u, k, b, t, n, v, l) = (u, k, b, 0, 0, (0, 0), []) := by
      unfold form8
      rw [if_neg (show ¬ k = 1 by omega), if_neg (show ¬ k = 2 by omega), if_neg (show ¬ k = 3 by omega), if_neg (show ¬ k = 4 by omega), if_neg (show ¬ k = 6 by omega), if_neg (show ¬ k = 5 by omega), if_neg (show ¬ k = 8 by omega)]
    rw [e, b2, b3, b4, decide_eq_false (show ¬ k = 1 by omega), same_req]
    simp only [same_self, h0, hl, Bool.true_and, Bool.not_false, Bool.or_true, Bool.or_false, Bool.false_or]
    cases decide (t = 0) <;> cases decide (n = 0) <;> cases same v (0, 0) <;> cases decide (l.length = 0) <;> rfl
  · rcases kinds hk with rfl | rfl | rfl | rfl | rfl | rfl | rfl | rfl | rfl | rfl | rfl | rfl
    · have e : form8 (u, 1, b, t, n, v, l) = (u, 1, 0, 0, 0, (0, 0), l) := rfl
      rw [e, same_req]
      show (same u u && (same (1 : Int) 1 && (same b 0 && (same t 0 && (same n 0 && (same v (0, 0) && same l l)))))) = ((decide (b = 0) || false || (!true)) && (decide (n = 0) || false) && (same v (0, 0) || false) && (decide (t = 0) || false) && (true || decide (l.length = 0)))
      simp only [same_self, h0, hl]
      cases decide (b = 0) <;> cases decide (t = 0) <;> cases decide (n = 0) <;> cases same v (0, 0) <;> cases decide (l.length = 0) <;> rfl
    · have e : form8 (u, 2, b, t, n, v, l) = (u, 2, 0, 0, n, (0, 0), []) := rfl
      rw [e, same_req]
      show (same u u && (same (2 : Int) 2 && (same b 0 && (same t 0 && (same n n && (same v (0, 0) && same l [])))))) = ((decide (b = 0) || false || (!true)) && (decide (n = 0) || true) && (same v (0, 0) || false) && (decide (t = 0) || false) && (false || decide (l.length = 0)))
      simp only [same_self, h0, hl]
      cases decide (b = 0) <;> cases decide (t = 0) <;> cases decide (n = 0) <;> cases same v (0, 0) <;> cases decide (l.length = 0) <;> rfl
    · have e : form8 (u, 3, b, t, n, v, l) = (u, 3, 0, 0, n, (0, 0), []) := rfl
      rw [e, same_req]
      show (same u u && (same (3 : Int) 3 && (same b 0 && (same t 0 && (same n n && (same v (0, 0) && same l [])))))) = ((decide (b = 0) || false || (!true)) && (decide (n = 0) || true) && (same v (0, 0) || false) && (decide (t = 0) || false) && (false || decide (l.length = 0)))
      simp only [same_self, h0, hl]
      cases decide (b = 0) <;> cases decide (t = 0) <;> cases decide (n = 0) <;> cases same v (0, 0) <;> cases decide (l.length = 0) <;> rfl
    · have e : form8 (u, 4, b, t, n, v, l) = (u, 4, b, t, 0, v, []) := rfl
      rw [e, same_req]
      show (same u u && (same (4 : Int) 4 && (same b b && (same t t && (same n 0 && (same v v && same l [])))))) = ((decide (b = 0) || true || (!true)) && (decide (n = 0) || false) && (same v (0, 0) || true) && (decide (t = 0) || true) && (false || decide (l.length = 0)))
      simp only [same_self, h0, hl]
      cases decide (b = 0) <;> cases decide (t = 0) <;> cases decide (n = 0) <;> cases same v (0, 0) <;> cases decide (l.length = 0) <;> rfl
    · have e : form8 (u, 5, b, t, n, v, l) = (u, 5, b, t, n, (0, 0), []) := rfl
      rw [e, same_req]
      show (same u u && (same (5 : Int) 5 && (same b b && (same t t && (same n n && (same v (0, 0) && same l [])))))) = ((decide (b = 0) || true || (!true)) && (decide (n = 0) || true) && (same v (0, 0) || false) && (decide (t = 0) || true) && (false || decide (l.length = 0)))
      simp only [same_self, h0, hl]
      cases decide (b = 0) <;> cases decide (t = 0) <;> cases decide (n = 0) <;> cases same v (0, 0) <;> cases decide (l.length = 0) <;> rfl
    · have e : form8 (u, 6, b, t, n, v, l) = (u, 6, b, t, 0, v, []) := rfl
      rw [e, same_req]
      show (same u u && (same (6 : Int) 6 && (same b b && (same t t && (same n 0 && (same v v && same l [])))))) = ((decide (b = 0) || true || (!true)) && (decide (n = 0) || false) && (same v (0, 0) || true) && (decide (t = 0) || true) && (false || decide (l.length = 0)))
      simp only [same_self, h0, hl]
      cases decide (b = 0) <;> cases decide (t = 0) <;> cases decide (n = 0) <;> cases same v (0, 0) <;> cases decide (l.length = 0) <;> rfl
    · have e : form8 (u, 7, b, t, n, v, l) = (u, 7, b, 0, 0, (0, 0), []) := rfl
      rw [e, same_req]
      show (same u u && (same (7 : Int) 7 && (same b b && (same t 0 && (same n 0 && (same v (0, 0) && same l [])))))) = ((decide (b = 0) || true || (!true)) && (decide (n = 0) || false) && (same v (0, 0) || false) && (decide (t = 0) || false) && (false || decide (l.length = 0)))
      simp only [same_self, h0, hl]
      cases decide (b = 0) <;> cases decide (t = 0) <;> cases decide (n = 0) <;> cases same v (0, 0) <;> cases decide (l.length = 0) <;> rfl
    · have e : form8 (u, 8, b, t, n, v, l) = (u, 8, b, 0, n, (0, 0), []) := rfl
      rw [e, same_req]
      show (same u u && (same (8 : Int) 8 && (same b b && (same t 0 && (same n n && (same v (0, 0) && same l [])))))) = ((decide (b = 0) || true || (!true)) && (decide (n = 0) || true) && (same v (0, 0) || false) && (decide (t = 0) || false) && (false || decide (l.length = 0)))
      simp only [same_self, h0, hl]
      cases decide (b = 0) <;> cases decide (t = 0) <;> cases decide (n = 0) <;> cases same v (0, 0) <;> cases decide (l.length = 0) <;> rfl
    · have e : form8 (u, 9, b, t, n, v, l) = (u, 9, b, 0, 0, (0, 0), []) := rfl
      rw [e, same_req]
      show (same u u && (same (9 : Int) 9 && (same b b && (same t 0 && (same n 0 && (same v (0, 0) && same l [])))))) = ((decide (b = 0) || true || (!true)) && (decide (n = 0) || false) && (same v (0, 0) || false) && (decide (t = 0) || false) && (false || decide (l.length = 0)))
      simp only [same_self, h0, hl]
      cases decide (b = 0) <;> cases decide (t = 0) <;> cases decide (n = 0) <;> cases same v (0, 0) <;> cases decide (l.length = 0) <;> rfl
    · have e : form8 (u, 10, b, t, n, v, l) = (u, 10, b, 0, 0, (0, 0), []) := rfl
      rw [e, same_req]
      show (same u u && (same (10 : Int) 10 && (same b b && (same t 0 && (same n 0 && (same v (0, 0) && same l [])))))) = ((decide (b = 0) || true || (!true)) && (decide (n = 0) || false) && (same v (0, 0) || false) && (decide (t = 0) || false) && (false || decide (l.length = 0)))
      simp only [same_self, h0, hl]
      cases decide (b = 0) <;> cases decide (t = 0) <;> cases decide (n = 0) <;> cases same v (0, 0) <;> cases decide (l.length = 0) <;> rfl
    · have e : form8 (u, 11, b, t, n, v, l) = (u, 11, b, 0, 0, (0, 0), []) := rfl
      rw [e, same_req]
      show (same u u && (same (11 : Int) 11 && (same b b && (same t 0 && (same n 0 && (same v (0, 0) && same l [])))))) = ((decide (b = 0) || true || (!true)) && (decide (n = 0) || false) && (same v (0, 0) || false) && (decide (t = 0) || false) && (false || decide (l.length = 0)))
      simp only [same_self, h0, hl]
      cases decide (b = 0) <;> cases decide (t = 0) <;> cases decide (n = 0) <;> cases same v (0, 0) <;> cases decide (l.length = 0) <;> rfl
    · have e : form8 (u, 12, b, t, n, v, l) = (u, 12, b, 0, 0, (0, 0), []) := rfl
      rw [e, same_req]
      show (same u u && (same (12 : Int) 12 && (same b b && (same t 0 && (same n 0 && (same v (0, 0) && same l [])))))) = ((decide (b = 0) || true || (!true)) && (decide (n = 0) || false) && (same v (0, 0) || false) && (decide (t = 0) || false) && (false || decide (l.length = 0)))
      simp only [same_self, h0, hl]
      cases decide (b = 0) <;> cases decide (t = 0) <;> cases decide (n = 0) <;> cases same v (0, 0) <;> cases decide (l.length = 0) <;> rfl
theorem hasT_eq (k : Int) : (decide (k = 4) || decide (k = 5) || decide (k = 6)) = hasT k := by
  unfold hasT
  rw [Bool.eq_iff_iff, inq_iff]
  simp only [Bool.or_eq_true, decide_eq_true_eq]
  omega
theorem req_key (us wd sm ib nn vv k4 k5 k6 e1 it : Bool) : ((bif (bif us then false else true) then (some (false, ())) else (bif (bif wd then false else true) then (some (false, ())) else (bif (bif sm then false else true) then (some (false, ())) else (bif (bif ib then false else true) then (some (false, ())) else (bif (bif nn then false else true) then (some (false, ())) else (bif (bif vv then false else true) then (some (false, ())) else (bif k4 then (bif e1 then (some ((true == it), ())) else (some (false, ()))) else (bif k5 then (bif e1 then (some ((true == it), ())) else (some (false, ()))) else (bif e1 then (some ((k6 == it), ())) else (some (false, ()))))))))))) : Option (Bool × Unit)) = some (us && (wd && (sm && (ib && (nn && (vv && (e1 && ((k4 || k5 || k6) == it))))))), ()) := by
  cases us <;> cases wd <;> cases sm <;> cases ib <;> cases nn <;> cases vv <;> first | rfl | (cases k4 <;> cases k5 <;> cases k6 <;> cases e1 <;> cases it <;> rfl)
theorem req_two (r : MReq) : (inq r.1 1 5 && (inq r.2.1 1 12 && (same r (form8 r) && (inq r.2.2.1 0 9 && (inq r.2.2.2.2.1 0 10000 && (decOk r.2.2.2.2.2.1 && ((decide (r.2.1 = 1) == testsOk r.2.2.2.2.2.2) && (hasT r.2.1 == inq r.2.2.2.1 1 4)))))))) = reqOk r := by
  rw [form_eq]
  unfold reqOk
  have hb : decide (r.2.2.1 = 0) = true → inq r.2.2.1 0 9 = true := fun h => inq_iff.2 (by have := of_decide_eq_true h; omega)
  have hn : decide (r.2.2.2.2.1 = 0) = true → inq r.2.2.2.2.1 0 10000 = true := fun h => inq_iff.2 (by have := of_decide_eq_true h; omega)
  have hv : same r.2.2.2.2.2.1 (0, 0) = true → decOk r.2.2.2.2.2.1 = true := fun h => by rw [same_iff.1 h]; rfl
  have ht : decide (r.2.2.2.1 = 0) = true → inq r.2.2.2.1 1 4 = false := fun h => Bool.eq_false_iff.2 fun h2 => by have := inq_iff.1 h2; have := of_decide_eq_true h; omega
  have hl : decide (r.2.2.2.2.2.2.length = 0) = true → testsOk r.2.2.2.2.2.2 = false := fun h => Bool.eq_false_iff.2 fun h2 => by have := testsOk_len h2; have := of_decide_eq_true h; omega
  have g1 : ∀ b h i : Bool, (b = true → i = true) → (b || (h && i)) = ((b || h) && i) := by intro b h i hi; cases b <;> cases h <;> cases i <;> first | rfl | (have := hi rfl; cases this)
  have g2 : ∀ t h i : Bool, (t = true → i = false) → (bif h then i else t) = ((t || h) && (h == i)) := by intro t h i hi; cases t <;> cases h <;> cases i <;> first | rfl | (have := hi rfl; cases this)
  have g3 : ∀ k t l : Bool, (l = true → t = false) → (bif k then t else l) = ((k || l) && (k == t)) := by intro t h i hi; cases t <;> cases h <;> cases i <;> first | rfl | (have := hi rfl; cases this)
  rw [g1 _ _ _ hb, g1 _ _ _ hn, g1 _ _ _ hv, g2 _ _ _ ht, g3 _ _ _ hl]
  cases inq r.2.1 1 12
  · simp
  · simp only [Bool.not_true, Bool.or_false]
    generalize (decide (r.2.2.1 = 0) || hasB r.2.1) = a1
    generalize (decide (r.2.2.2.2.1 = 0) || hasN r.2.1) = a2
    generalize (same r.2.2.2.2.2.1 (0, 0) || hasV r.2.1) = a3
    generalize (decide (r.2.2.2.1 = 0) || hasT r.2.1) = a4
    generalize (decide (r.2.1 = 1) || decide (r.2.2.2.2.2.2.length = 0)) = a5
    generalize (decide (r.2.1 = 1) == testsOk r.2.2.2.2.2.2) = a6
    generalize (hasT r.2.1 == inq r.2.2.2.1 1 4) = a7
    ac_rfl
end Go.Proofs.Ytijolcgmciclhaa

set_option linter.unusedVariables false
set_option linter.unusedSimpArgs false
namespace Go.Proofs.Ytijolcgmciclhaa
open Go.Vm
def signB (b : MBat) (u r : Int) : Bool := inq u 1 5 && (signs r && !decide (b.2.2.2.2.1.length = 6))
def withSig (b : MBat) (s : MSig) : MBat := (b.1, b.2.1, b.2.2.1, b.2.2.2.1, b.2.2.2.2.1 ++ [s], b.2.2.2.2.2)
theorem six_eq (b : MBat) : decide ((List.length b.2.2.2.2.1 : Int) = (6 : Int)) = decide (b.2.2.2.2.1.length = 6) := by
  by_cases h : b.2.2.2.2.1.length = 6
  · rw [decide_eq_true h, decide_eq_true (by omega)]
  · rw [decide_eq_false h, decide_eq_false (by omega)]
theorem batSign_eq (b : MBat) (u r : Int) : batSign b u r = bif isOpen b && signB b u r then (withSig b (u, r, batMark b), true) else (b, false) := rfl
theorem p_open {β : Type} (ok st : Bool) (A B : β) : (bif (bif ok then false else true) then B else (bif (bif st then false else true) then B else A)) = bif ok && st then A else B := by cases ok <;> cases st <;> rfl
theorem open_six {b : MBat} (h : isOpen b = true) : b.2.2.2.2.1.length ≤ 6 := (batOk_iff.1 (isOpen_iff.1 h).1).1.2.2.2.2.2.1
theorem open_three {b : MBat} (h : isOpen b = true) : b.2.2.2.2.2.length ≤ 3 := (batOk_iff.1 (isOpen_iff.1 h).1).1.2.2.2.2.2.2.2
def devB (b : MBat) (k : Int) (o : Bool) : Bool := bif o then decide (k = b.2.2.2.2.2.length) && decide (k < 3) else inq k 0 ((b.2.2.2.2.2.length : Int) - 1) && b.2.2.2.2.2.getD k.toNat false
def withDev (b : MBat) (k : Int) (o : Bool) : MBat := (b.1, b.2.1, b.2.2.1, b.2.2.2.1, b.2.2.2.2.1, bif o then b.2.2.2.2.2 ++ [true] else b.2.2.2.2.2.set k.toNat false)
theorem batDev_eq (b : MBat) (k : Int) (o : Bool) : batDev b k o = bif isOpen b && devB b k o then (withDev b k o, true) else (b, false) := rfl
theorem dev_in {b : MBat} {k : Int} (h : inq k 0 ((b.2.2.2.2.2.length : Int) - 1) = true) : (bif (decide ((0 : Int) ≤ k)) then (decide (k < (List.length b.2.2.2.2.2 : Int))) else false) = true := by
  have := inq_iff.1 h
  rw [decide_eq_true this.1]
  exact decide_eq_true (by omega)
theorem dev_close {b : MBat} {k : Int} {A B : Option (Bool × MBat × Unit)} (hl : b.2.2.2.2.2.length ≤ 3) : (bif inq k 0 (w64 ((List.length b.2.2.2.2.2 : Int) - (1 : Int))) then (bif (bif (decide ((0 : Int) ≤ k)) then (decide (k < (List.length b.2.2.2.2.2 : Int))) else false) then (bif (rdL (e := Sh.bool) b.2.2.2.2.2 k) then (bif (bif (decide ((0 : Int) ≤ k)) then (decide (k < (List.length b.2.2.2.2.2 : Int))) else false) then A else none) else B) else none) else B) = bif inq k 0 ((b.2.2.2.2.2.length : Int) - 1) && b.2.2.2.2.2.getD k.toNat false then A else B := by
  rw [w64_eq (x := (List.length b.2.2.2.2.2 : Int) - 1) (by omega) (by omega)]
  cases h : inq k 0 ((b.2.2.2.2.2.length : Int) - 1)
  · rfl
  · rw [dev_in h]
    show (bif b.2.2.2.2.2.getD k.toNat false then A else B) = _
    rfl
def withTst (b : MBat) (i : Int) (t : MTst) : MBat := (b.1, b.2.1, b.2.2.1.set i.toNat t, b.2.2.2.1, b.2.2.2.2.1, b.2.2.2.2.2)
noncomputable def turnAt (b : MBat) (n w : Int) (v : MDec) (c : Int) : MBat × Bool := bif decide (findT b.2.2.1 n < 0) then (b, false) else (withTst b (findT b.2.2.1 n) (tstTurn (b.2.2.1.getD (findT b.2.2.1 n).toNat t0) w v c).1, (tstTurn (b.2.2.1.getD (findT b.2.2.1 n).toNat t0) w v c).2)
theorem batTest_eq (b : MBat) (n w : Int) (v : MDec) (c : Int) : batTest b n w v c = bif isOpen b then turnAt b n w v c else (b, false) := by
  unfold batTest turnAt
  cases isOpen b
  · rfl
  · cases decide (findT b.2.2.1 n < 0) <;> rfl
theorem set_self2 (b : MBat) {i : Int} (h : i.toNat < b.2.2.1.length) : withTst b i (b.2.2.1.getD i.toNat t0) = b := by
  unfold withTst
  have : b.2.2.1.set i.toNat (b.2.2.1.getD i.toNat t0) = b.2.2.1 := by
    refine set_self ?_
    rw [List.getD_eq_getElem?_getD, List.getElem?_eq_getElem h]; rfl
  rw [this]
theorem getD_mem {b : MBat} {i : Int} (h1 : 0 ≤ i) (h2 : i < b.2.2.1.length) : b.2.2.1.getD i.toNat t0 ∈ b.2.2.1 := by
  have h : i.toNat < b.2.2.1.length := by omega
  rw [List.getD_eq_getElem?_getD, List.getElem?_eq_getElem h]
  exact List.getElem_mem h
end Go.Proofs.Ytijolcgmciclhaa

set_option linter.unusedVariables false
set_option linter.unusedSimpArgs false
namespace Go.Proofs.Ytijolcgmciclhaa
open Go.Vm
theorem sig_read {ro : List Int} {s : MSig} (hr : ro.length ≤ 4294967296) (hs : sigOk s = true) (hl : ¬ (List.length ro : Int) < s.1) : w64 (s.1 - 1) = s.1 - 1 ∧ (bif (decide ((0 : Int) ≤ s.1 - 1)) then (decide (s.1 - 1 < (List.length ro : Int))) else false) = true ∧ rdL (e := I) ro (s.1 - 1) = ro.getD (s.1 - 1).toNat 0 := by
  have h := (sigOk_iff.1 hs).1
  refine ⟨w64_eq (by omega) (by omega), ?_, rfl⟩
  rw [decide_eq_true (show (0 : Int) ≤ s.1 - 1 by omega)]
  exact decide_eq_true (by omega)
theorem man_may (o k : Int) : List.any (manOf k).2.1 (fun d : Int => decide (o = d)) = reqMay o k ∧ List.length (manOf k).2.1 ≤ 2 := by
  cases h : inq k 1 12
  · have h' : ¬ (1 ≤ k ∧ k ≤ 12) := fun h2 => by rw [inq_iff.2 h2] at h; cases h
    have e : manOf k = (by0, [], by0) := by unfold manOf; rw [h]; rfl
    have e2 : reqMay o k = false := by
      unfold reqMay
      rw [if_neg (show ¬ k = 1 by omega), if_neg (show ¬ k = 2 by omega), if_neg (show ¬ k = 3 by omega), if_neg (show ¬ k = 4 by omega), if_neg (show ¬ k = 5 by omega), if_neg (show ¬ k = 6 by omega), if_neg (show ¬ k = 7 by omega), if_neg (show ¬ k = 8 by omega), if_neg (show ¬ k = 9 by omega), if_neg (show ¬ k = 10 by omega), if_neg (show ¬ k = 11 by omega), if_neg (show ¬ k = 12 by omega)]
    rw [e, e2]
    exact ⟨rfl, Nat.zero_le _⟩
  · have one : ∀ a : Int, List.any [a] (fun d : Int => decide (o = d)) = decide (o = a) := fun a => by
      show (decide (o = a) || false) = _
      rw [Bool.or_false]
    have two : ∀ a b : Int, List.any [a, b] (fun d : Int => decide (o = d)) = (decide (o = a) || decide (o = b)) := fun a b => by
      show (decide (o = a) || (decide (o = b) || false)) = _
      rw [Bool.or_false]
    rcases kinds h with rfl | rfl | rfl | rfl | rfl | rfl | rfl | rfl | rfl | rfl | rfl | rfl
    · exact ⟨one 4, Nat.le_of_ble_eq_true rfl⟩
    · exact ⟨one 4, Nat.le_of_ble_eq_true rfl⟩
    · exact ⟨two 1 2, Nat.le_of_ble_eq_true rfl⟩
    · exact ⟨two 1 2, Nat.le_of_ble_eq_true rfl⟩
    · exact ⟨two 2 3, Nat.le_of_ble_eq_true rfl⟩
    · exact ⟨two 1 2, Nat.le_of_ble_eq_true rfl⟩
    · exact ⟨two 1 2, Nat.le_of_ble_eq_true rfl⟩
    · exact ⟨two 2 3, Nat.le_of_ble_eq_true rfl⟩
    · exact ⟨two 2 3, Nat.le_of_ble_eq_true rfl⟩
    · exact ⟨one 3, Nat.le_of_ble_eq_true rfl⟩
    · exact ⟨one 3, Nat.le_of_ble_eq_true rfl⟩
    · exact ⟨one 3, Nat.le_of_ble_eq_true rfl⟩
def hou4 (h : MHou) : Bool := houSm h && decide (h.2.2.length ≤ 4)
theorem hou4_iff {h : MHou} : hou4 h = true ↔ houSm h = true ∧ h.2.2.length ≤ 4 := by unfold hou4; rw [Bool.and_eq_true, decide_eq_true_eq]
theorem four_eq (h : MHou) : decide ((List.length h.2.2 : Int) = (4 : Int)) = decide (h.2.2.length = 4) := by
  by_cases h' : h.2.2.length = 4
  · rw [decide_eq_true h', decide_eq_true (show (List.length h.2.2 : Int) = (4 : Int) by omega)]
  · rw [decide_eq_false h', decide_eq_false (show ¬ (List.length h.2.2 : Int) = (4 : Int) by omega)]
theorem p_take {β : Type} (h : MHou) (n : Int) (hh : hou4 h = true) (mk : MHou × Int → β) :
    (bif (decide (spcNow h.2.1 < (0 : Int))) then (some (mk (h, 4))) else (bif (decide ((List.length h.2.2 : Int) = (4 : Int))) then (some (mk (h, 6))) else (bif (decide (n = (0 : Int))) then (some (mk (h, 5))) else (bif (bif (decide ((0 : Int) ≤ spcNow h.2.1)) then (decide (spcNow h.2.1 < (List.length h.2.1 : Int))) else false) then (bif smA (rdL (e := S_SpcSpec) h.2.1 (spcNow h.2.1)).1 then (bif (fitL h.2.2 [batNew (spcNow h.2.1) (rdL (e := S_SpcSpec) h.2.1 (spcNow h.2.1)).1 n]) then (some (mk ((h.1, h.2.1, (List.append h.2.2 [batNew (spcNow h.2.1) (rdL (e := S_SpcSpec) h.2.1 (spcNow h.2.1)).1 n])), 1))) else none) else none) else none)))) = some (mk (houTakeN h n)) := by
  obtain ⟨h0, h4⟩ := hou4_iff.1 hh
  obtain ⟨_, h2, _, _⟩ := houSm_iff.1 h0
  unfold houTakeN
  rw [four_eq]
  refine bif_if (fun h => by rw [if_pos h]) fun g1 => ?_
  rw [if_neg g1]
  refine bif_if (fun h => by rw [if_pos h]) fun g2 => ?_
  rw [if_neg g2]
  refine bif_if (fun h => by rw [if_pos h]) fun g3 => ?_
  rw [if_neg g3]
  have hr := (spcNow_range h.2.1).resolve_left (by omega)
  have e : rdL (e := S_SpcSpec) h.2.1 (spcNow h.2.1) = h.2.1.getD (spcNow h.2.1).toNat spc0 := rfl
  have hs : smA (h.2.1.getD (spcNow h.2.1).toNat spc0).1 = true := decide_eq_true ((smS_iff.1 h2).2 _ (getS_mem hr.1 hr.2))
  rw [e, decide_eq_true hr.1, decide_eq_true hr.2, hs, fitL_eq (by show h.2.2.length + 1 ≤ _; omega)]; rfl
theorem may_read {h : MHou} {r : MReq} (hu : 1 ≤ r.1) (hr : h.1.length ≤ 4294967296) (hl : ¬ (List.length h.1 : Int) < r.1) : w64 (r.1 - 1) = r.1 - 1 ∧ (bif (decide ((0 : Int) ≤ r.1 - 1)) then (decide (r.1 - 1 < (List.length h.1 : Int))) else false) = true ∧ rdL (e := I) h.1 (r.1 - 1) = roleOf h r := by
  refine ⟨w64_eq (by omega) (by omega), ?_, rfl⟩
  rw [decide_eq_true (show (0 : Int) ≤ r.1 - 1 by omega)]
  exact decide_eq_true (by omega)
def goPre (h : MHou) (r : MReq) : Bool := hou4 h && (smA r.2.2.2.2.2.2 && (decide (1 ≤ r.1) && decide (0 ≤ r.2.2.1)))
theorem goPre_iff {h : MHou} {r : MReq} : goPre h r = true ↔ hou4 h = true ∧ smA r.2.2.2.2.2.2 = true ∧ 1 ≤ r.1 ∧ 0 ≤ r.2.2.1 := by
  unfold goPre; simp only [Bool.and_eq_true, decide_eq_true_eq]
theorem ok_pre {h : MHou} {r : MReq} (hh : houOk h = true) (hr : reqOk r = true) : goPre h r = true ∧ inq r.2.1 1 12 = true := by
  have h1 := reqOk_iff.1 hr
  have hu := inq_iff.1 h1.2.1
  have ht := reqOk_tests hr
  refine ⟨goPre_iff.2 ⟨hou4_iff.2 ⟨houOk_sm hh, (houOk_iff.1 hh).2.2.1⟩, decide_eq_true (by omega), hu.1, reqOk_batch hr⟩, h1.1⟩
def sigsIn (ro : List Int) (b : MBat) : Bool := b.2.2.2.2.1.all (sigIn ro)
noncomputable def asksIn (s : MSpc) (b : MBat) : Bool := same (b.2.2.1.map (·.1)) s.1 && !decide (s.2 = 1)
theorem same_map (l : List MTst) (m : List MAsk) (hl : m.length = l.length) (F : Nat → Nat → Option (Bool × Unit)) (hend : ∀ k, F (k + 1) m.length = some (true, ()))
    (hstep : ∀ k i a t r r', m.drop i = a :: r → l.drop i = t :: r' → i < m.length → i < l.length → F (k + 1) i = bif same a t.1 then F k (i + 1) else some (false, ())) : F (m.length + 1) 0 = some (same (l.map (·.1)) m, ()) := by
  have e : same (l.map (·.1)) m = same m (l.map (·.1)) := by rw [Bool.eq_iff_iff, same_iff, same_iff]; exact eq_comm
  rw [e]
  refine eq_loop m (l.map (·.1)) (by rw [List.length_map]; exact hl) F hend fun k i x y r r' hd hd' hi hi' => ?_
  rw [List.length_map] at hi'
  have hdl := List.drop_eq_getElem_cons hi'
  rw [← List.map_drop, hdl, List.map_cons] at hd'
  rw [hstep k i x _ r _ hd hdl hi hi', (List.cons.inj hd').1]
theorem p_about (k b : Int) : (bif inq k 1 3 then (some ((0 : Int), ())) else (bif (bif inq b 0 3 then false else true) then (some ((0 : Int), ())) else (some ((w64 (b + (1 : Int))), ())))) = some (bif inq k 1 3 || !inq b 0 3 then 0 else b + 1, ()) := by
  cases inq k 1 3
  · cases h : inq b 0 3
    · rfl
    · have := inq_iff.1 h
      rw [w64_eq (x := b + 1) (by omega) (by omega)]; rfl
  · rfl
end Go.Proofs.Ytijolcgmciclhaa

set_option linter.unusedVariables false
set_option linter.unusedSimpArgs false
namespace Go.Proofs.Ytijolcgmciclhaa
open Go.Vm
theorem x_sl20Until : ∃ fn : In_sl20Until → Out_sl20Until, ∀ x, (fun x : In_sl20Until => rdB 280 x.1) x = true → (∃ k, E_sl20Until d_sl20Tst (fun x => rdB 40 x.1) k x = some (fn x)) ∧ (fun (x : In_sl20Until) (v : Out_sl20Until) => Step 280 x.1 v.2.1 ∧ List.length v.1.2.2.2.2 ≤ 3) x (fn x) := by
  refine choose_fn (fun k x => E_sl20Until d_sl20Tst (fun x => rdB 40 x.1) k x) (fun x : In_sl20Until => rdB 280 x.1) (fun (x : In_sl20Until) (v : Out_sl20Until) => Step 280 x.1 v.2.1 ∧ List.length v.1.2.2.2.2 ≤ 3) (((0, (0, 0), (0, 0), 0), 0, (0, 0), 0, []), (([], 0), ())) fun x hx => ?_
  have key : ∀ (r0 : MRd) (n0 : Int), RdOk 280 r0 → Gets (E_sl20Until d_sl20Tst (fun x => rdB 40 x.1) 7 (r0, n0, ())) (fun v => Step 280 r0 v.2.1 ∧ List.length v.1.2.2.2.2 ≤ 3) := by
    intro r0 n0 h0
    have hs := Step.refl r0
    rw [ev_sl20Until 7 r0 n0]
    refine then_go (Q := fun a y => List.length y.2.2.2.2 ≤ 3) q_sl20Tst h0 rfl hs (by decide) fun t r' hq hs => ?_
    refine gets_loop (σ := MRd × MTst) (fun k i s => r_sl20Until d_sl20Tst (fun x => rdB 40 x.1) (r0, n0, ()) k [false, true, false, true, true] (h0_sl20Until r0 n0 (i : Int) ((0 : Int), (((0 : Int), (0 : Int)), (((0 : Int), (0 : Int)), (0 : Int)))) (0 : Int) ((0 : Int), (0 : Int)) (0 : Int) [] s.2.1 s.2.2.1 s.2.2.2.1 s.2.2.2.2.1 s.2.2.2.2.2 s.1)) _ (fun i s => Step (40 + 40 * i) r0 s.1 ∧ List.length s.2.2.2.2.2 ≤ 3) 6 (fun k s hs => ?_) (fun k i s hi hs next => ?_) 6 0 (r', t) (by omega) ⟨hs, hq⟩
    · obtain ⟨r, t⟩ := s
      obtain ⟨hs, hl⟩ := hs
      have hs : Step 280 r0 r := hs
      show Gets (r_sl20Until d_sl20Tst (fun x => rdB 40 x.1) (r0, n0, ()) (k + 1) [false, true, false, true, true] (h0_sl20Until r0 n0 ((6 : Nat) : Int) ((0 : Int), (((0 : Int), (0 : Int)), (((0 : Int), (0 : Int)), (0 : Int)))) (0 : Int) ((0 : Int), (0 : Int)) (0 : Int) [] t.1 t.2.1 t.2.2.1 t.2.2.2.1 t.2.2.2.2 r)) _
      rw [rd0_sl20Until]
      exact gets_both (fun h => absurd (of_decide_eq_true h) (by decide)) fun _ => gets_some ⟨hs, hl⟩
    · obtain ⟨r, t⟩ := s
      obtain ⟨hs, hl⟩ := hs
      have hs : Step (40 + 40 * i) r0 r := hs
      show Gets (r_sl20Until d_sl20Tst (fun x => rdB 40 x.1) (r0, n0, ()) (k + 1) [false, true, false, true, true] (h0_sl20Until r0 n0 (i : Int) ((0 : Int), (((0 : Int), (0 : Int)), (((0 : Int), (0 : Int)), (0 : Int)))) (0 : Int) ((0 : Int), (0 : Int)) (0 : Int) [] t.1 t.2.1 t.2.2.1 t.2.2.2.1 t.2.2.2.2 r)) _
      rw [rd0_sl20Until, w_succ (by omega)]
      refine gets_both (fun _ => gets_both (fun _ => ?_) fun _ => gets_some ⟨hs.mono (by omega), hl⟩) fun _ => gets_some ⟨hs.mono (by omega), hl⟩
      refine then_go (Q := fun a y => List.length y.2.2.2.2 ≤ 3) q_sl20Tst h0 rfl hs (by omega) fun t' r' hq hs => ?_
      exact next (r', t') ⟨hs.mono (by omega), hq⟩
  exact ⟨7, key x.1 x.2.1 (rdB_iff.1 hx)⟩
noncomputable def d_sl20Until := Classical.choose x_sl20Until
theorem c_sl20Until (x : In_sl20Until) (hx : (fun x : In_sl20Until => rdB 280 x.1) x = true) : (fun (x : In_sl20Until) (v : Out_sl20Until) => Step 280 x.1 v.2.1 ∧ List.length v.1.2.2.2.2 ≤ 3) x (d_sl20Until x) := (Classical.choose_spec x_sl20Until x hx).2
theorem s_sl20Until : C_sl20Until (fun x => rdB 280 x.1) d_sl20Until := S_sl20Until s_sl20Tst fun x hx => (Classical.choose_spec x_sl20Until x hx).1
theorem q_sl20Until (r : MRd) (a : Int × Unit) (h : RdOk 280 r) : Step 280 r (d_sl20Until (r, a)).2.1 ∧ List.length (d_sl20Until (r, a)).1.2.2.2.2 ≤ 3 := c_sl20Until (r, a) (rdB_iff.2 h)
theorem x_sDrawTstMore : ∃ fn : In_sDrawTstMore → Out_sDrawTstMore, ∀ x, (fun x : In_sDrawTstMore => bytesB x.1) x = true → (∃ k, E_sDrawTstMore d_sl20Open (fun x => bytesB x.1) d_sl20Until (fun x => rdB 280 x.1) d_sl20Rd_pick (fun x => rdB 1 x.1) d_sl20Dec (fun x => rdB 7 x.1) d_sl20Value (fun x => rdB 2 x.1) k x = some (fn x)) ∧ (fun (x : In_sDrawTstMore) (v : Out_sDrawTstMore) => List.length v.1.2.2.2.2 ≤ 3) x (fn x) := by
  refine choose_fn (fun k x => E_sDrawTstMore d_sl20Open (fun x => bytesB x.1) d_sl20Until (fun x => rdB 280 x.1) d_sl20Rd_pick (fun x => rdB 1 x.1) d_sl20Dec (fun x => rdB 7 x.1) d_sl20Value (fun x => rdB 2 x.1) k x) (fun x : In_sDrawTstMore => bytesB x.1) (fun (x : In_sDrawTstMore) (v : Out_sDrawTstMore) => List.length v.1.2.2.2.2 ≤ 3) (((0, (0, 0), (0, 0), 0), 0, (0, 0), 0, []), (0, 0), ()) fun x hx => ?_
  have key : ∀ xs : List Int, bytesB xs = true → Gets (E_sDrawTstMore d_sl20Open (fun x => bytesB x.1) d_sl20Until (fun x => rdB 280 x.1) d_sl20Rd_pick (fun x => rdB 1 x.1) d_sl20Dec (fun x => rdB 7 x.1) d_sl20Value (fun x => rdB 2 x.1) 0 (xs, ())) (fun v => List.length v.1.2.2.2.2 ≤ 3) := by
    intro xs h
    rw [ev_sDrawTstMore 0 xs]
    refine then_fst (Q := fun r => RdOk 1000000 r) h (c_sl20Open (xs, ()) h) fun r0 h0 => ?_
    have hs := Step.refl r0
    repeat' first
      | refine then_go (Q := fun a y => List.length y.2.2.2.2 ≤ 3) q_sl20Until h0 rfl (by assumption) (by decide) fun y r' hq hs => ?_
      | refine then_go (Q := PickQ) q_sl20Rd_pick h0 rfl (by assumption) (by decide) fun y r' hq hs => ?_
      | refine then_go (Q := fun a y => True) q_sl20Dec h0 rfl (by assumption) (by decide) fun y r' hq hs => ?_
      | refine then_go (Q := fun a y => True) q_sl20Value h0 rfl (by assumption) (by decide) fun y r' hq hs => ?_
      | exact gets_some (by assumption)
      | refine gets_both (fun hc => ?_) fun hc => ?_
  exact ⟨0, key x.1 hx⟩
noncomputable def d_sDrawTstMore := Classical.choose x_sDrawTstMore
theorem c_sDrawTstMore (x : In_sDrawTstMore) (hx : (fun x : In_sDrawTstMore => bytesB x.1) x = true) : (fun (x : In_sDrawTstMore) (v : Out_sDrawTstMore) => List.length v.1.2.2.2.2 ≤ 3) x (d_sDrawTstMore x) := (Classical.choose_spec x_sDrawTstMore x hx).2
theorem s_sDrawTstMore : C_sDrawTstMore (fun x => bytesB x.1) d_sDrawTstMore := S_sDrawTstMore s_sl20Open s_sl20Until s_sl20Rd_pick s_sl20Dec s_sl20Value fun x hx => (Classical.choose_spec x_sDrawTstMore x hx).1

end Go.Proofs.Ytijolcgmciclhaa

set_option linter.unusedVariables false
set_option linter.unusedSimpArgs false
namespace Go.Proofs.Ytijolcgmciclhaa
open Go.Vm
theorem s_lFnTstMore : C_lFnTstMore (lawPre _) (fun _ => (true, ())) := S_lFnTstMore s_sDrawTstMore s_iTstMore s_sTstMore s_lcuTest s_lcuOk s_lcuDecs s_iTstNeed s_iTstOk fun x hx => ⟨0, (ev_lFnTstMore 0 x.1).trans (by
  have hb : bytesB x.1 = true := bytes_of (lawPre_iff.1 hx).1.2
  have hd := c_sDrawTstMore (x.1, ()) hb
  refine gets_true (gets_both (fun _ => gets_some rfl) fun _ => gets_cl hb ?_)
  generalize d_sDrawTstMore (x.1, ()) = D at hd ⊢
  obtain ⟨t, v, u⟩ := D
  change MTst at t
  change MDec at v
  have hl : List.length t.2.2.2.2 ≤ 3 := hd
  have hp : smT t = true := smT_of hl (by decide)
  have hl1 : List.length (tstMore t v).1.2.2.2.2 ≤ 3 := len_more hl (by decide)
  have hd1 : decide (List.length (tstMore t v).1.2.2.2.2 ≤ 4294967296) = true := decide_eq_true (by omega)
  refine gets_cl hp (gets_cl hp (gets_cl hd1 ?_))
  simp only [same_self, beq_self_eq_true, beq_dec, cond_true, cond_false]
  cases hc : (tstMore t v).2
  · rw [tstMore_no hc] at hd1 ⊢
    refine gets_cl hd1 ?_
    rw [same_self]; exact gets_some rfl
  · obtain ⟨g0, g1, g2, g3, g4, g5⟩ := more_law hc
    simp only [cond_true, cond_false]
    have hlen : List.length (tstMore t v).1.2.2.2.2 = List.length t.2.2.2.2 + 1 := by rw [g1, List.length_append]; rfl
    have hw : w64 ((List.length t.2.2.2.2 : Int) + 1) = ((List.length t.2.2.2.2 + 1 : Nat) : Int) := w_succ (by omega)
    have htk : takeI (tstMore t v).1.2.2.2.2 (List.length t.2.2.2.2 : Int) = t.2.2.2.2 := by
      rw [g1]
      show List.take (Int.toNat (List.length t.2.2.2.2 : Int)) (t.2.2.2.2 ++ [v]) = t.2.2.2.2
      rw [Int.toNat_natCast, List.take_left']
      rfl
    have hrd : rdL (e := S_DecDec) (tstMore t v).1.2.2.2.2 (List.length t.2.2.2.2 : Int) = v := by
      rw [g1]
      refine rdL_drop (r := []) ?_
      rw [List.drop_left']
      rfl
    have hle : (bif decide ((0 : Int) ≤ (List.length t.2.2.2.2 : Int)) then decide ((List.length t.2.2.2.2 : Int) ≤ (List.length (tstMore t v).1.2.2.2.2 : Int)) else false) = true := by
      rw [hlen, decide_eq_true (show (0 : Int) ≤ (List.length t.2.2.2.2 : Int) by omega)]
      exact decide_eq_true (by omega)
    have hlt : (bif decide ((0 : Int) ≤ (List.length t.2.2.2.2 : Int)) then decide ((List.length t.2.2.2.2 : Int) < (List.length (tstMore t v).1.2.2.2.2 : Int)) else false) = true := by
      rw [hlen, decide_eq_true (show (0 : Int) ≤ (List.length t.2.2.2.2 : Int) by omega)]
      exact decide_eq_true (by omega)
    have hl0 : decide (List.length t.2.2.2.2 ≤ 4294967296) = true := hp
    have hel : decide ((List.length (tstMore t v).1.2.2.2.2 : Int) = w64 ((List.length t.2.2.2.2 : Int) + 1)) = true := by rw [hw, hlen]; exact decide_eq_true rfl
    simp only [cl, g0, hel, hle, hlt, htk, hrd, hl0, hd1, g4, g2, same_self, decide_true, cond_true]
    rw [hw]
    rcases g5 with ⟨g5, g6⟩ | ⟨g5, g6⟩
    · have e : decide (((List.length t.2.2.2.2 + 1 : Nat) : Int) = need t.2.2.2.1) = false := decide_eq_false (by omega)
      rw [e, g6]; exact gets_some rfl
    · have e : decide (((List.length t.2.2.2.2 + 1 : Nat) : Int) = need t.2.2.2.1) = true := decide_eq_true (by omega)
      rw [e]
      rcases g6 with g6 | g6 <;> rw [g6] <;> exact gets_some rfl)⟩

end Go.Proofs.Ytijolcgmciclhaa
