/- The functions that FnBatNew reaches: what each of them answers, part 1. Conditions stand in each contract. -/
import Derived.Test.YtjmohfahchamaaaFnBatNewEq0
import Derived.Test.YtjmohfahchamaaaMoA
set_option linter.unusedVariables false
set_option linter.unusedSimpArgs false
namespace Go.Proofs.Ytjmohfahchamaaa
open Go.Vm

theorem s_iin : C_iin (fun _ => true) (fun x => (inq x.1 x.2.1 x.2.2.1, ())) := S_iin fun x _ => ⟨0, (ev_iin 0 x.1 x.2.1 x.2.2.1).trans (by
  simp only [bif_some, bif_pair, bif_and]; rfl)⟩
theorem s_sl1In : C_sl1In (fun _ => true) (fun x => (inq x.1 x.2.1 x.2.2.1, ())) := S_sl1In fun x _ => ⟨0, (ev_sl1In 0 x.1 x.2.1 x.2.2.1).trans (by
  simp only [bif_some, bif_pair, bif_and]; rfl)⟩

/-- Ten, so many times. -/
theorem pw_step {i : Nat} (h : i < 18) : w64 ((10 : Int) ^ i * (10 : Int)) = 10 ^ (i + 1) := by
  have : (10 : Int) ^ (i + 1) ≤ 10 ^ 18 := by exact_mod_cast Nat.pow_le_pow_right (by decide) (by omega)
  have h2 : (0 : Int) < 10 ^ (i + 1) := Int.pow_pos (by decide)
  rw [← Int.pow_succ, w64_eq (by omega) (by omega)]

theorem p_ipower (n : Int) (hn : n ≤ 18) : r_ipower (n, ()) (n.toNat + 1) [false, true, false, true, true] (h0_ipower n (1 : Int) (0 : Int)) = some (pw n, ()) := by
  by_cases h0 : n ≤ 0
  · have : n.toNat = 0 := by omega
    rw [this, rd0_ipower]
    have : decide ((0 : Int) < n) = false := decide_eq_false (by omega)
    rw [this]
    show some ((1 : Int), ()) = _
    unfold pw
    rw [show n.toNat = 0 by omega]; rfl
  · have hc : (n.toNat : Int) = n := by omega
    refine count_loop (σ := Unit) n.toNat (fun k i _ => r_ipower (n, ()) k [false, true, false, true, true] (h0_ipower n ((10 : Int) ^ i) (i : Int))) (fun _ _ => (pw n, ())) (fun _ _ => True) (fun k s _ => ?_) (fun k i s hi _ => ?_) n.toNat 0 () (by omega) trivial
    · rw [rd0_ipower, show decide ((n.toNat : Int) < n) = false from decide_eq_false (by omega)]
      rfl
    · refine .inr ⟨(), trivial, ?_, rfl⟩
      rw [rd0_ipower, show decide ((i : Int) < n) = true from decide_eq_true (by omega), pw_step (by omega), w_succ (by omega)]
      rfl
theorem s_ipower : C_ipower (fun x => decide (x.1 ≤ 18)) (fun x => (pw x.1, ())) := S_ipower fun x hx => ⟨_, (ev_ipower _ x.1).trans (p_ipower x.1 (of_decide_eq_true hx))⟩
theorem p_sl1Ten (n : Int) (hn : n ≤ 18) : r_sl1Ten (n, ()) (n.toNat + 1) [false, true, false, true, true] (h0_sl1Ten n (1 : Int) (0 : Int)) = some (pw n, ()) := by
  by_cases h0 : n ≤ 0
  · have : n.toNat = 0 := by omega
    rw [this, rd0_sl1Ten]
    have : decide ((0 : Int) < n) = false := decide_eq_false (by omega)
    rw [this]
    show some ((1 : Int), ()) = _
    unfold pw
    rw [show n.toNat = 0 by omega]; rfl
  · have hc : (n.toNat : Int) = n := by omega
    refine count_loop (σ := Unit) n.toNat (fun k i _ => r_sl1Ten (n, ()) k [false, true, false, true, true] (h0_sl1Ten n ((10 : Int) ^ i) (i : Int))) (fun _ _ => (pw n, ())) (fun _ _ => True) (fun k s _ => ?_) (fun k i s hi _ => ?_) n.toNat 0 () (by omega) trivial
    · rw [rd0_sl1Ten, show decide ((n.toNat : Int) < n) = false from decide_eq_false (by omega)]
      rfl
    · refine .inr ⟨(), trivial, ?_, rfl⟩
      rw [rd0_sl1Ten, show decide ((i : Int) < n) = true from decide_eq_true (by omega), pw_step (by omega), w_succ (by omega)]
      rfl
theorem s_sl1Ten : C_sl1Ten (fun x => decide (x.1 ≤ 18)) (fun x => (pw x.1, ())) := S_sl1Ten fun x hx => ⟨_, (ev_sl1Ten _ x.1).trans (p_sl1Ten x.1 (of_decide_eq_true hx))⟩
theorem near_arith {n d : Int} (h : nrPre n d = true) (h0 : 0 ≤ n) : w64 (Int.tdiv (w64 (w64 ((2 : Int) * n) + d)) (w64 ((2 : Int) * d))) = near n d ∧ decide (w64 ((2 : Int) * d) = (0 : Int)) = false ∧ 0 ≤ near n d ∧ near n d ≤ 2000000000000000 := by
  obtain ⟨⟨h1, h2⟩, h3, h4⟩ := nrPre_iff.1 h
  have e1 : w64 ((2 : Int) * d) = 2 * d := w64_eq (by omega) (by omega)
  have e2 : w64 ((2 : Int) * n) = 2 * n := w64_eq (by omega) (by omega)
  have e3 : w64 (2 * n + d) = 2 * n + d := w64_eq (by omega) (by omega)
  have e4 : Int.tdiv (2 * n + d) (2 * d) = (2 * n + d) / (2 * d) := Int.tdiv_eq_ediv_of_nonneg (by omega)
  have a1 : 0 ≤ (2 * n + d) / (2 * d) := Int.ediv_nonneg (by omega) (by omega)
  have a2 : (2 * n + d) / (2 * d) ≤ n + d := by
    refine Int.ediv_le_of_le_mul (by omega) ?_
    have : n + d ≤ (n + d) * d := by
      have := Int.mul_le_mul_of_nonneg_left (show (1 : Int) ≤ d by omega) (show 0 ≤ n + d by omega)
      omega
    have e : (n + d) * (2 * d) = 2 * ((n + d) * d) := by rw [Int.mul_left_comm]
    omega
  have e5 : near n d = (2 * n + d) / (2 * d) := by unfold near; rw [if_neg (by omega)]
  rw [e1, e2, e3, e4, e5]
  exact ⟨w64_eq (by omega) (by omega), decide_eq_false (by omega), a1, by omega⟩

theorem near_neg {n d : Int} (h : n < 0) : near n d = -(near (-n) d) := by
  unfold near; rw [if_pos h, if_neg (by omega)]
theorem p_inearest_up {n d : Int} {g p} (h : nrPre n d = true) (h0 : 0 ≤ n) : E_inearest g p 0 (n, d, ()) = some (near n d, ()) := (ev_inearest 0 n d).trans (by
  obtain ⟨h1, h2, _⟩ := near_arith h h0
  rw [show decide (n < (0 : Int)) = false from decide_eq_false (by omega), h2, h1]
  rfl)
theorem s_inearest_up : C_inearest (fun x => nrPre x.1 x.2.1 && decide (0 ≤ x.1)) (fun x => (near x.1 x.2.1, ())) := S_inearest (S0_inearest (fn := fun _ => (0, ()))) fun x hx => ⟨0, p_inearest_up (Bool.and_eq_true_iff.1 hx).1 (of_decide_eq_true (Bool.and_eq_true_iff.1 hx).2)⟩
theorem p_inearest {n d : Int} (hx : nrPre n d = true) : E_inearest (fun x => (near x.1 x.2.1, ())) (fun x => nrPre x.1 x.2.1 && decide (0 ≤ x.1)) 0 (n, d, ()) = some (near n d, ()) := by
  obtain ⟨⟨h1, h2⟩, h3, h4⟩ := nrPre_iff.1 hx
  by_cases h0 : n < 0
  · refine (ev_inearest 0 n d).trans ?_
    have e : w64 ((0 : Int) - n) = -n := by rw [w64_eq (by omega) (by omega)]; omega
    have hp : nrPre (-n) d = true := nrPre_iff.2 ⟨⟨by omega, by omega⟩, h3, h4⟩
    obtain ⟨_, _, g1, g2⟩ := near_arith hp (by omega)
    rw [show decide (n < (0 : Int)) = true from decide_eq_true h0, e]
    simp only [cond_true, hp, show decide (0 ≤ -n) = true from decide_eq_true (by omega), Bool.and_self]
    rw [near_neg h0, show w64 ((0 : Int) - near (-n) d) = -near (-n) d from by rw [w64_eq (by omega) (by omega)]; omega]
  · exact p_inearest_up hx (by omega)
theorem s_inearest : C_inearest (fun x => nrPre x.1 x.2.1) (fun x => (near x.1 x.2.1, ())) := S_inearest s_inearest_up fun x hx => ⟨0, p_inearest hx⟩
theorem p_sl1Near_up {n d : Int} {g p} (h : nrPre n d = true) (h0 : 0 ≤ n) : E_sl1Near g p 0 (n, d, ()) = some (near n d, ()) := (ev_sl1Near 0 n d).trans (by
  obtain ⟨h1, h2, _⟩ := near_arith h h0
  rw [show decide (n < (0 : Int)) = false from decide_eq_false (by omega), h2, h1]
  rfl)
theorem s_sl1Near_up : C_sl1Near (fun x => nrPre x.1 x.2.1 && decide (0 ≤ x.1)) (fun x => (near x.1 x.2.1, ())) := S_sl1Near (S0_sl1Near (fn := fun _ => (0, ()))) fun x hx => ⟨0, p_sl1Near_up (Bool.and_eq_true_iff.1 hx).1 (of_decide_eq_true (Bool.and_eq_true_iff.1 hx).2)⟩
theorem p_sl1Near {n d : Int} (hx : nrPre n d = true) : E_sl1Near (fun x => (near x.1 x.2.1, ())) (fun x => nrPre x.1 x.2.1 && decide (0 ≤ x.1)) 0 (n, d, ()) = some (near n d, ()) := by
  obtain ⟨⟨h1, h2⟩, h3, h4⟩ := nrPre_iff.1 hx
  by_cases h0 : n < 0
  · refine (ev_sl1Near 0 n d).trans ?_
    have e : w64 ((0 : Int) - n) = -n := by rw [w64_eq (by omega) (by omega)]; omega
    have hp : nrPre (-n) d = true := nrPre_iff.2 ⟨⟨by omega, by omega⟩, h3, h4⟩
    obtain ⟨_, _, g1, g2⟩ := near_arith hp (by omega)
    rw [show decide (n < (0 : Int)) = true from decide_eq_true h0, e]
    simp only [cond_true, hp, show decide (0 ≤ -n) = true from decide_eq_true (by omega), Bool.and_self]
    rw [near_neg h0, show w64 ((0 : Int) - near (-n) d) = -near (-n) d from by rw [w64_eq (by omega) (by omega)]; omega]
  · exact p_sl1Near_up hx (by omega)
theorem s_sl1Near : C_sl1Near (fun x => nrPre x.1 x.2.1) (fun x => (near x.1 x.2.1, ())) := S_sl1Near s_sl1Near_up fun x hx => ⟨0, p_sl1Near hx⟩

end Go.Proofs.Ytjmohfahchamaaa

set_option linter.unusedVariables false
set_option linter.unusedSimpArgs false
namespace Go.Proofs.Ytjmohfahchamaaa
open Go.Vm

theorem s_iDecOk : C_iDecOk (fun _ => true) (fun x => (decOk x.1, ())) := S_iDecOk s_iin s_ipower fun x _ => ⟨0, (ev_iDecOk 0 x.1).trans (p_decOk x.1)⟩
theorem s_sDecOk : C_sDecOk (fun _ => true) (fun x => (decOk x.1, ())) := S_sDecOk s_sl1In s_sl1Ten fun x _ => ⟨0, (ev_sDecOk 0 x.1).trans (p_decOk x.1)⟩
theorem s_iDecAt : C_iDecAt (fun _ => true) (fun x => (decAt x.1 x.2.1, ())) := S_iDecAt s_iDecOk s_iin s_ipower s_inearest fun x _ => ⟨0, (ev_iDecAt 0 x.1 x.2.1).trans (p_decAt x.1 x.2.1 _ fun h1 h2 => p_atR h1 h2)⟩
theorem s_sl1At : C_sl1At (fun x => decOk x.1 && inq x.2.1 0 3) (fun x => (atR x.1 x.2.1, ())) := S_sl1At s_sl1Ten s_sl1Near fun x hx => ⟨0, (ev_sl1At 0 x.1 x.2.1).trans (p_atR (Bool.and_eq_true_iff.1 hx).1 (Bool.and_eq_true_iff.1 hx).2)⟩
theorem s_gisNaN_int : C_gisNaN_int (fun _ => true) (fun _ => (false, ())) := S_gisNaN_int fun x _ => ⟨0, (ev_gisNaN_int 0 x.1).trans (by
  rw [decide_eq_true rfl]; rfl)⟩
theorem s_gCompare_int : C_gCompare_int (fun _ => true) (fun x => (cmpI x.1 x.2.1, ())) := S_gCompare_int s_gisNaN_int fun x _ => ⟨0, (ev_gCompare_int 0 x.1 x.2.1).trans (p_cmpI x.1 x.2.1)⟩
theorem s_iDecCmp : C_iDecCmp (fun _ => true) (fun x => (decCmp x.1 x.2.1, ())) := S_iDecCmp s_iDecOk s_iDecAt s_gCompare_int fun x _ => ⟨0, (ev_iDecCmp 0 x.1 x.2.1).trans (p_decCmp x.1 x.2.1 _ fun h1 h2 => by
  unfold decAt
  simp only [h1, h2, in03, Bool.and_self, cond_true])⟩
theorem s_sDecCmp : C_sDecCmp (fun _ => true) (fun x => (decCmp x.1 x.2.1, ())) := S_sDecCmp s_sDecOk s_sl1At fun x _ => ⟨0, (ev_sDecCmp 0 x.1 x.2.1).trans (p_decCmp x.1 x.2.1 _ fun h1 h2 => by
  simp only [h1, h2, in03, Bool.and_self, cond_true]
  exact p_cmpI _ _)⟩
theorem s_iisTest : C_iisTest (fun _ => true) (fun x => (inq x.1 1 4, ())) := S_iisTest s_iin fun x _ => ⟨0, ev_iisTest 0 x.1⟩
theorem s_iSpcTest_ok : C_iSpcTest_ok (fun _ => true) (fun x => (askOk x.1, ())) := S_iSpcTest_ok s_iisTest s_iDecOk s_iDecCmp s_iin fun x _ => ⟨0, (ev_iSpcTest_ok 0 x.1).trans (by
  simp only [bif_some, bif_pair, bif_and]; rfl)⟩
theorem s_sl3Test : C_sl3Test (fun _ => true) (fun x => (askOk x.1, ())) := S_sl3Test s_sl1In s_sDecOk s_sDecCmp fun x _ => ⟨0, (ev_sl3Test 0 x.1).trans (by
  simp only [bif_some, bif_pair, bif_and]; rfl)⟩
theorem s_iSpcIn : C_iSpcIn (fun _ => true) (fun x => (spcIn x.1 x.2.1, ())) := S_iSpcIn s_iSpcTest_ok s_iDecOk s_iDecAt s_iDecCmp fun x _ => ⟨0, (ev_iSpcIn 0 x.1 x.2.1).trans (p_spcIn x.1 x.2.1 _ fun h1 h2 => by
  have h3 := askOk_pl h1
  have e : decAt x.2.1 x.1.2.2.2 = atR x.2.1 x.1.2.2.2 := by unfold decAt; rw [h2, h3]; rfl
  simp only [e, bif_some, bif_pair, bif_and])⟩
end Go.Proofs.Ytjmohfahchamaaa

set_option linter.unusedVariables false
set_option linter.unusedSimpArgs false
namespace Go.Proofs.Ytjmohfahchamaaa
open Go.Vm

theorem p_iSpcTestsOk (xs : List MAsk) (hx : xs.length ≤ 4294967296) : r_iSpcTestsOk (fun x => (askOk x.1, ())) (fun x => (inq x.1 x.2.1 x.2.2.1, ())) (xs, ()) (xs.length + 1) [false, true, false, true] (h0_iSpcTestsOk xs (xs.length : Int) ((0 : Nat) : Int)) = some (asksOk none xs && inq xs.length 1 4, ()) := by
  refine asks_loop xs hx (inq xs.length 1 4) (fun k i => r_iSpcTestsOk (fun x => (askOk x.1, ())) (fun x => (inq x.1 x.2.1 x.2.2.1, ())) (xs, ()) k [false, true, false, true] (h0_iSpcTestsOk xs (xs.length : Int) (i : Int))) (fun k => ?_) (fun k i x r hd hi => ?_)
  · rw [rd0_iSpcTestsOk, lt_false (Nat.le_refl _)]; rfl
  · rw [rd0_iSpcTestsOk, in_true hi, lt_true hi, w_succ (by omega)]
    exact asks_step hx hd hi _ (fun j => rdL (e := S_SpcTest) xs j) (fun j hj => rd_asks j hj)
theorem s_iSpcTestsOk : C_iSpcTestsOk (fun x => decide (List.length x.1 ≤ 4294967296)) (fun x => (testsOk x.1, ())) := S_iSpcTestsOk s_iSpcTest_ok s_iin fun x hx => ⟨_, (ev_iSpcTestsOk _ x.1).trans ((p_iSpcTestsOk x.1 (of_decide_eq_true hx)).trans (by
  unfold testsOk; rw [Bool.and_comm]))⟩

theorem p_sSpcTestsOk (xs : List MAsk) (hx : xs.length ≤ 4294967296) : r_sSpcTestsOk (fun x => (inq x.1 x.2.1 x.2.2.1, ())) (fun x => (askOk x.1, ())) (xs, ()) (xs.length + 1) [false, true, false, true, true] (h0_sSpcTestsOk xs ((0 : Nat) : Int)) = some (asksOk none xs && true, ()) := by
  refine asks_loop xs hx true (fun k i => r_sSpcTestsOk (fun x => (inq x.1 x.2.1 x.2.2.1, ())) (fun x => (askOk x.1, ())) (xs, ()) k [false, true, false, true, true] (h0_sSpcTestsOk xs (i : Int))) (fun k => ?_) (fun k i x r hd hi => ?_)
  · rw [rd0_sSpcTestsOk, lt_false (Nat.le_refl _)]; rfl
  · rw [rd0_sSpcTestsOk, in_true hi, lt_true hi, w_succ (by omega)]
    exact asks_step hx hd hi _ (fun j => rdL (e := S_SpcTest) xs j) (fun j hj => rd_asks j hj)
theorem s_sSpcTestsOk : C_sSpcTestsOk (fun _ => true) (fun x => (testsOk x.1, ())) := S_sSpcTestsOk s_sl1In s_sl3Test fun x _ => ⟨List.length x.1 + 1, (ev_sSpcTestsOk _ x.1).trans (by
  unfold testsOk
  cases h : inq (List.length x.1) 1 4
  · rfl
  · have := inq_iff.1 h
    refine (p_sSpcTestsOk x.1 (by omega)).trans ?_
    rw [Bool.and_true]; rfl)⟩

theorem p_make {n : Nat} {α : Type} {X : Option α} (h : n ≤ 4294967296) : (bif (bif (bif (decide ((0 : Int) ≤ (n : Int))) then (decide ((n : Int) ≤ (BIG : Int))) else false) then (decide ((n : Int) = (n : Int))) else false) then X else none) = X := by
  rw [decide_eq_true (show (0 : Int) ≤ (n : Int) by omega), decide_eq_true (show (n : Int) ≤ (BIG : Int) by show (n : Int) ≤ ((4294967296 : Nat) : Int); omega), decide_eq_true rfl]; rfl

/-- Two rows of one length, and the loop over them. -/
theorem p_eqS {α : Type} {xs ys : List α} {X : Option (Bool × Unit)} (h : xs.length = ys.length → X = some (same xs ys, ())) : (bif (bif (decide ((xs.length : Int) = (ys.length : Int))) then false else true) then (some (false, ())) else X) = some (same xs ys, ()) := by
  by_cases hl : xs.length = ys.length
  · rw [decide_eq_true (by omega)]; exact h hl
  · rw [decide_eq_false (by omega), same_false fun e => hl (by rw [e])]; rfl

end Go.Proofs.Ytjmohfahchamaaa

set_option linter.unusedVariables false
set_option linter.unusedSimpArgs false
namespace Go.Proofs.Ytjmohfahchamaaa
open Go.Vm

/-- Lists that came in. -/
def wfSpcs (l : List MSpc) : Bool := okLen l.length && l.all (fun s => okLen s.1.length)
end Go.Proofs.Ytjmohfahchamaaa

set_option linter.unusedVariables false
set_option linter.unusedSimpArgs false
namespace Go.Proofs.Ytjmohfahchamaaa
open Go.Vm

theorem beq_dec (a b : MDec) : Sh.beq S_DecDec a b = same a b := by
  show (decide (a.1 = b.1) && decide (a.2 = b.2)) = _
  rw [same_int, same_int, same_pair]

theorem s_idecsOk_c1 : C_idecsOk_c1 (fun _ => true) (fun x => (!decOk x.1, ())) := S_idecsOk_c1 s_iDecOk fun x _ => ⟨0, (ev_idecsOk_c1 0 x.1).trans (by simp only [bif_not])⟩
theorem s_gIndexFunc_DecDec__idecsOk_c1 : C_gIndexFunc_DecDec__idecsOk_c1 (fun x => decide (List.length x.1 ≤ 4294967296)) (fun x => (idxOf (fun d => !decOk d) x.1 0, ())) := S_gIndexFunc_DecDec__idecsOk_c1 s_idecsOk_c1 fun x hx => ⟨List.length x.1 + 1, (ev_gIndexFunc_DecDec__idecsOk_c1 _ x.1 x.2.1).trans (by
  have hx : List.length x.1 ≤ 4294967296 := of_decide_eq_true hx
  refine idx_loop (α := MDec) x.1 (fun d => !decOk d) (fun k i => r_gIndexFunc_DecDec__idecsOk_c1 (fun x => (!decOk x.1, ())) (x.1, x.2.1, ()) k [false, true, false, true] (h0_gIndexFunc_DecDec__idecsOk_c1 x.1 x.2.1 (List.length x.1 : Int) (i : Int))) (fun k => ?_) (fun k i y r hd hi => ?_)
  · rw [rd0_gIndexFunc_DecDec__idecsOk_c1, lt_false (Nat.le_refl _)]; rfl
  · rw [rd0_gIndexFunc_DecDec__idecsOk_c1, in_true hi, lt_true hi, w_succ (by omega), rdL_drop hd]; rfl)⟩
theorem s_gContainsFunc_DecDec__idecsOk_c1 : C_gContainsFunc_DecDec__idecsOk_c1 (fun x => decide (List.length x.1 ≤ 4294967296)) (fun x => (List.any x.1 (fun d => !decOk d), ())) := S_gContainsFunc_DecDec__idecsOk_c1 s_gIndexFunc_DecDec__idecsOk_c1 fun x hx => ⟨0, (ev_gContainsFunc_DecDec__idecsOk_c1 0 x.1 x.2.1).trans (by
  have hx : decide (List.length x.1 ≤ 4294967296) = true := hx
  simp only [hx, cond_true, idxOf_any])⟩
theorem s_idecsOk : C_idecsOk (fun x => decide (List.length x.1 ≤ 4294967296)) (fun x => (List.all x.1 decOk, ())) := S_idecsOk s_gContainsFunc_DecDec__idecsOk_c1 fun x hx => ⟨0, (ev_idecsOk 0 x.1).trans (by
  have hx : decide (List.length x.1 ≤ 4294967296) = true := hx
  simp only [hx, cond_true, bif_not, not_any_not])⟩

theorem s_iTstNeed : C_iTstNeed (fun _ => true) (fun x => (need x.1, ())) := S_iTstNeed fun x _ => ⟨0, (ev_iTstNeed 0 x.1).trans (by
  have key : ∀ c : Int, (bif (decide (c = (1 : Int))) then (some ((1 : Int), ())) else (bif (decide (c = (2 : Int))) then (some ((2 : Int), ())) else (some ((0 : Int), ())))) = some (need c, ()) := fun c => by
    unfold need
    by_cases h1 : c = 1
    · rw [decide_eq_true h1, if_pos h1]; rfl
    · rw [decide_eq_false h1, if_neg h1]
      by_cases h2 : c = 2
      · rw [decide_eq_true h2, if_pos h2]; rfl
      · rw [decide_eq_false h2, if_neg h2]; rfl
  exact key x.1)⟩
theorem p_iDecMean (l : List MDec) (p : Int) (hl : inq l.length 1 100 = true) (ho : l.all decOk = true) (hp : inq p 0 3 = true) :
    r_iDecMean (fun x => (inq x.1 x.2.1 x.2.2.1, ())) (fun x => (List.all x.1 decOk, ())) (fun x => decide (List.length x.1 ≤ 4294967296)) (fun x => (decAt x.1 x.2.1, ())) (fun x => (pw x.1, ())) (fun x => decide (x.1 ≤ 18)) (fun x => (near x.1 x.2.1, ())) (fun x => nrPre x.1 x.2.1) (l, p, ()) (l.length + 1) [false, true, false, true, true, true] (h0_iDecMean l p 0 (l.length : Int) ((0 : Nat) : Int) (0, 0)) = some (decMean l p, ()) := by
  obtain ⟨h1, h2⟩ := inq_iff.1 hl
  obtain ⟨h3, h4⟩ := inq_iff.1 hp
  have := sum_loop l (by omega) (fun c => (near (c * pw p) ((l.length : Int) * pw 3), p)) (fun k i c => r_iDecMean (fun x => (inq x.1 x.2.1 x.2.2.1, ())) (fun x => (List.all x.1 decOk, ())) (fun x => decide (List.length x.1 ≤ 4294967296)) (fun x => (decAt x.1 x.2.1, ())) (fun x => (pw x.1, ())) (fun x => decide (x.1 ≤ 18)) (fun x => (near x.1 x.2.1, ())) (fun x => nrPre x.1 x.2.1) (l, p, ()) k [false, true, false, true, true, true] (h0_iDecMean l p c (l.length : Int) (i : Int) (0, 0))) (fun k c b1 b2 => ?_) (fun k i x r c hd hi b1 b2 => ?_)
  · refine this.trans ?_
    rw [ho]
    unfold decMean
    rw [hl, ho, hp, mean_near hl hp]; rfl
  · have hpw := pw_le h4
    have hpp := pw_pos p
    have p3 : pw 3 = 1000 := rfl
    have hpc : c * pw p ≤ 999900000000 ∧ -999900000000 ≤ c * pw p := by
      rcases pw_cases h4 with e | e | e | e <;> rw [e] <;> omega
    rw [rd0_iDecMean, lt_false (Nat.le_refl _)]
    simp only [cond_false, p3]
    rw [decide_eq_true (show p ≤ 18 by omega), w64_eq (x := c * pw p) (by omega) (by omega), w64_eq (x := (l.length : Int) * 1000) (by omega) (by omega)]
    have hn : nrPre (c * pw p) ((l.length : Int) * 1000) = true := nrPre_iff.2 ⟨⟨by omega, by omega⟩, by omega, by omega⟩
    rw [hn]; rfl
  · have hx : decOk x = true := List.all_eq_true.1 ho x (mem_drop hd)
    have hb := at3_bound hx
    rw [rd0_iDecMean, in_true hi, lt_true hi, w_succ (by omega), rdL_drop hd, hx]
    have e : decAt x 3 = atR x 3 := by unfold decAt; rw [hx]; rfl
    simp only [e, cond_true]
    rw [w64_eq (by omega) (by omega)]
theorem s_iDecMean : C_iDecMean (fun x => decide (List.length x.1 ≤ 4294967296)) (fun x => (decMean x.1 x.2.1, ())) := S_iDecMean s_iin s_idecsOk s_iDecAt s_ipower s_inearest fun x hx => ⟨List.length x.1 + 1, (ev_iDecMean _ x.1 x.2.1).trans (by
  have hx : decide (List.length x.1 ≤ 4294967296) = true := hx
  simp only [hx, cond_true]
  cases hl : inq (List.length x.1) 1 100
  · unfold decMean; rw [hl]; rfl
  · cases ho : List.all x.1 decOk
    · unfold decMean; rw [hl, ho]; rfl
    · cases hp : inq x.2.1 0 3
      · unfold decMean; rw [hl, ho, hp]; rfl
      · exact p_iDecMean x.1 x.2.1 hl ho hp)⟩
end Go.Proofs.Ytjmohfahchamaaa

set_option linter.unusedVariables false
set_option linter.unusedSimpArgs false
namespace Go.Proofs.Ytjmohfahchamaaa
open Go.Vm

theorem rdLmore {l : List MDec} (h : l ≠ []) : rdL (e := S_DecDec) l (0 : Int) = l.getD 0 (0, 0) := rfl
theorem head_ok {l : List MDec} (h : l ≠ []) (ho : l.all decOk = true) : decOk (l.getD 0 (0, 0)) = true := by
  cases l with
  | nil => exact absurd rfl h
  | cons d r => exact List.all_eq_true.1 ho d List.mem_cons_self
theorem tlPre_iff {t : MTst} : tlPre t = true ↔ tsPre t = true ∧ (t.2.2.2.1 = 1 → t.2.2.2.2 ≠ []) := by
  unfold tlPre
  simp only [Bool.and_eq_true, Bool.or_eq_true, Bool.not_eq_true', decide_eq_false_iff_not, List.isEmpty_eq_false_iff]
  exact ⟨fun h => ⟨h.1, fun e => h.2.resolve_left (fun hn => hn e)⟩, fun h => ⟨h.1, Classical.or_iff_not_imp_left.2 fun hn => h.2 (Classical.not_not.1 hn)⟩⟩
theorem in0_ne {l : List MDec} (h : l ≠ []) : (bif (decide ((0 : Int) ≤ (0 : Int))) then (decide ((0 : Int) < (l.length : Int))) else false) = true := by
  have : 0 < l.length := List.length_pos_iff.2 h
  exact in_true (i := 0) this

theorem p_tell {t : MTst} (h : tlPre t = true) (A B C : Option (MDec × Unit)) (hA : t.2.2.2.2 ≠ [] → A = some (decAt (t.2.2.2.2.getD 0 (0, 0)) t.1.2.2.2, ())) (hB : B = some (decMean (t.2.2.1 :: t.2.2.2.2) t.1.2.2.2, ())) (hC : C = some (decAt t.2.2.1 t.1.2.2.2, ())) :
    (bif (decide (t.2.2.2.1 = (1 : Int))) then (bif (bif (decide ((0 : Int) ≤ (0 : Int))) then (decide ((0 : Int) < (t.2.2.2.2.length : Int))) else false) then A else none) else (bif (decide (t.2.2.2.1 = (2 : Int))) then (bif (fitL [t.2.2.1] t.2.2.2.2) then B else none) else C)) = some (tell t, ()) := by
  obtain ⟨h1, h2⟩ := tlPre_iff.1 h
  obtain ⟨_, _, _, h3⟩ := tsPre_iff.1 h1
  unfold tell
  by_cases c1 : t.2.2.2.1 = 1
  · rw [decide_eq_true c1, if_pos c1, in0_ne (h2 c1), hA (h2 c1)]; rfl
  · rw [decide_eq_false c1, if_neg c1]
    by_cases c2 : t.2.2.2.1 = 2
    · rw [decide_eq_true c2, if_pos c2, fitL_eq (by simp; omega), hB]; rfl
    · rw [decide_eq_false c2, if_neg c2, hC]; rfl

theorem s_iTstTest_counts : C_iTstTest_counts (fun x => tlPre x.1) (fun x => (tell x.1, ())) := S_iTstTest_counts s_iDecAt s_iDecMean fun x hx => ⟨0, (ev_iTstTest_counts 0 x.1).trans (by
  have hx : tlPre x.1 = true := hx
  obtain ⟨_, _, _, h3⟩ := tsPre_iff.1 (tlPre_iff.1 hx).1
  refine p_tell hx _ _ _ (fun _ => rfl) ?_ rfl
  have : decide (List.length (List.append [x.1.2.2.1] x.1.2.2.2.2) ≤ 4294967296) = true := decide_eq_true (by
    show (x.1.2.2.1 :: x.1.2.2.2.2).length ≤ _
    rw [List.length_cons]; exact Nat.le_trans (Nat.succ_le_succ h3) (by decide))
  rw [this]; rfl)⟩
theorem s_iTstTest_told_c1 : C_iTstTest_told_c1 (fun _ => true) (fun x => (!spcIn x.2.1.1 x.1, ())) := S_iTstTest_told_c1 s_iSpcIn fun x _ => ⟨0, (ev_iTstTest_told_c1 0 x.1 x.2.1).trans (by simp only [bif_not])⟩
theorem s_gIndexFunc_DecDec__iTstTest_told_c1 : C_gIndexFunc_DecDec__iTstTest_told_c1 (fun x => decide (List.length x.1 ≤ 4294967296)) (fun x => (idxOf (fun d => !spcIn x.2.1.1.1 d) x.1 0, ())) := S_gIndexFunc_DecDec__iTstTest_told_c1 s_iTstTest_told_c1 fun x hx => ⟨List.length x.1 + 1, (ev_gIndexFunc_DecDec__iTstTest_told_c1 _ x.1 x.2.1).trans (by
  have hx : List.length x.1 ≤ 4294967296 := of_decide_eq_true hx
  refine idx_loop (α := MDec) x.1 (fun d => !spcIn x.2.1.1.1 d) (fun k i => r_gIndexFunc_DecDec__iTstTest_told_c1 (fun x => (!spcIn x.2.1.1 x.1, ())) (x.1, x.2.1, ()) k [false, true, false, true] (h0_gIndexFunc_DecDec__iTstTest_told_c1 x.1 x.2.1 (List.length x.1 : Int) (i : Int))) (fun k => ?_) (fun k i y r hd hi => ?_)
  · rw [rd0_gIndexFunc_DecDec__iTstTest_told_c1, lt_false (Nat.le_refl _)]; rfl
  · rw [rd0_gIndexFunc_DecDec__iTstTest_told_c1, in_true hi, lt_true hi, w_succ (by omega), rdL_drop hd]; rfl)⟩
theorem s_gContainsFunc_DecDec__iTstTest_told_c1 : C_gContainsFunc_DecDec__iTstTest_told_c1 (fun x => decide (List.length x.1 ≤ 4294967296)) (fun x => (List.any x.1 (fun d => !spcIn x.2.1.1.1 d), ())) := S_gContainsFunc_DecDec__iTstTest_told_c1 s_gIndexFunc_DecDec__iTstTest_told_c1 fun x hx => ⟨0, (ev_gContainsFunc_DecDec__iTstTest_told_c1 0 x.1 x.2.1).trans (by
  have hx : decide (List.length x.1 ≤ 4294967296) = true := hx
  simp only [hx, cond_true, idxOf_any])⟩

theorem tl_of {t : MTst} (h : tsPre t = true) (hn : ¬ (t.2.2.2.2.length : Int) < need t.2.2.2.1) : tlPre t = true := by
  refine tlPre_iff.2 ⟨h, fun e hne => ?_⟩
  rw [hne, e] at hn
  exact hn (by decide)

theorem p_state {t : MTst} (A : Option (Int × Unit)) (h3 : t.2.2.2.1 ≠ 3) (hA : ¬ (t.2.2.2.2.length : Int) < need t.2.2.2.1 → A = some (if passes t = true then 3 else 4, ())) (h0 : t.2.2.2.1 ≠ 0) :
    (bif (decide ((t.2.2.2.2.length : Int) < need t.2.2.2.1)) then (some ((2 : Int), ())) else A) = some (stateOf t, ()) := by
  unfold stateOf
  rw [if_neg h0, if_neg h3]
  by_cases hn : (t.2.2.2.2.length : Int) < need t.2.2.2.1
  · rw [decide_eq_true hn, if_pos hn]; rfl
  · rw [decide_eq_false hn, if_neg hn, hA hn]; rfl

theorem s_iTstTest_told : C_iTstTest_told (fun x => tsPre x.1) (fun x => (stateOf x.1, ())) := S_iTstTest_told s_iSpcIn s_iTstNeed s_iTstTest_counts s_gContainsFunc_DecDec__iTstTest_told_c1 fun x hx => ⟨0, (ev_iTstTest_told 0 x.1).trans (by
  have key : ∀ t : MTst, tsPre t = true → t.2.2.2.1 ≠ 0 → (bif (decide ((t.2.2.2.2.length : Int) < need t.2.2.2.1)) then (some ((2 : Int), ())) else (bif (bif (decide (t.2.2.2.1 = (3 : Int))) then false else true) then (bif tlPre t then (bif spcIn t.1 (tell t) then (bif decide (t.2.2.2.2.length ≤ 4294967296) then (bif (bif (t.2.2.2.2.any fun d => !spcIn t.1 d) then false else true) then (some ((3 : Int), ())) else (some ((4 : Int), ()))) else none) else (some ((4 : Int), ()))) else none) else (some ((4 : Int), ())))) = some (stateOf t, ()) := fun t ht h0 => by
    obtain ⟨_, _, _, h3⟩ := tsPre_iff.1 ht
    by_cases c3 : t.2.2.2.1 = 3
    · have hn : ¬ (t.2.2.2.2.length : Int) < need t.2.2.2.1 := by rw [c3]; unfold need; simp
      unfold stateOf
      rw [if_neg h0, if_pos c3, decide_eq_false hn, decide_eq_true c3]; rfl
    · refine p_state _ c3 (fun hn => ?_) h0
      rw [decide_eq_false c3, tl_of ht hn, decide_eq_true (show t.2.2.2.2.length ≤ 4294967296 by omega)]
      simp only [bif_not, not_any_not, cond_true]
      unfold passes
      cases spcIn t.1 (tell t) <;> cases t.2.2.2.2.all (spcIn t.1) <;> rfl
  have hx : tsPre x.1 = true := hx
  by_cases h0 : x.1.2.2.2.1 = 0
  · unfold stateOf
    rw [if_pos h0]
    simp only [decide_eq_true h0]
    cases spcIn x.1.1 x.1.2.2.1 <;> rfl
  · have := key x.1 hx h0
    simp only [decide_eq_false h0, cond_false]
    exact this)⟩

theorem p_okB (t : MTst) (A : Option (Bool × Unit)) (hA : t.2.1 ≠ 0 → A = some (decide (t.2.1 = stateOf t) && (decide (t.2.2.2.1 = 0) || !spcIn t.1 t.2.2.1), ())) :
    (bif (decide (t.2.1 = (0 : Int))) then (bif (Sh.beq S_DecDec t.2.2.1 ((0 : Int), (0 : Int))) then (some ((decide (t.2.2.2.1 = (0 : Int))), ())) else (some (false, ()))) else A) = some (tstOkB t, ()) := by
  rw [beq_dec]
  unfold tstOkB
  by_cases h : t.2.1 = 0
  · rw [decide_eq_true h]
    cases same t.2.2.1 ((0 : Int), (0 : Int)) <;> rfl
  · rw [decide_eq_false h, hA h]; rfl
theorem p_okB2 (t : MTst) : (bif (decide (t.2.1 = stateOf t)) then (bif (decide (t.2.2.2.1 = (0 : Int))) then (some (true, ())) else (some ((bif spcIn t.1 t.2.2.1 then false else true), ()))) else (some (false, ()))) = some (decide (t.2.1 = stateOf t) && (decide (t.2.2.2.1 = 0) || !spcIn t.1 t.2.2.1), ()) := by
  cases decide (t.2.1 = stateOf t) <;> cases decide (t.2.2.2.1 = 0) <;> cases spcIn t.1 t.2.2.1 <;> rfl
theorem s_iTstOk : C_iTstOk (fun x => decide (List.length x.1.2.2.2.2 ≤ 4294967296)) (fun x => (tstOk x.1, ())) := S_iTstOk s_iSpcTest_ok s_iDecOk s_idecsOk s_iin s_iTstNeed s_iTstTest_told s_iSpcIn fun x hx => ⟨0, (ev_iTstOk 0 x.1).trans (by
  have hx : decide (List.length x.1.2.2.2.2 ≤ 4294967296) = true := hx
  simp only [hx, cond_true]
  unfold tstOk
  cases hA : tstOkA x.1
  · have hA' := hA
    unfold tstOkA at hA'
    cases h1 : askOk x.1.1
    · rfl
    · cases h2 : decOk x.1.2.2.1
      · rfl
      · cases h3 : List.all x.1.2.2.2.2 decOk
        · rfl
        · cases h4 : inq x.1.2.2.2.1 0 3
          · rfl
          · rw [h1, h2, h3, h4] at hA'
            have h5 : need x.1.2.2.2.1 < (List.length x.1.2.2.2.2 : Int) := Int.not_le.1 (of_decide_eq_false hA')
            simp only [cond_false, decide_eq_true h5]; rfl
  · have hp := tsPre_of hA
    unfold tstOkA at hA
    simp only [Bool.and_eq_true, decide_eq_true_eq] at hA
    obtain ⟨h1, h2, h3, h4, h5⟩ := hA
    simp only [h1, h2, h3, h4, decide_eq_false (Int.not_lt.2 h5), cond_true, cond_false, Bool.true_and]
    refine p_okB x.1 _ fun hs => ?_
    simp only [hp, cond_true]
    exact p_okB2 x.1)⟩
theorem p_tstTell (t : MTst) (A : Option (MDec × Bool × Unit)) (hA : tstOk t = true → (t.2.1 = 3 ∨ t.2.1 = 4) → A = some (tell t, true, ())) :
    (bif (bif tstOk t then false else true) then (some (((0 : Int), (0 : Int)), (false, ()))) else (bif (bif (decide (t.2.1 = (3 : Int))) then false else true) then (bif (bif (decide (t.2.1 = (4 : Int))) then false else true) then (some (((0 : Int), (0 : Int)), (false, ()))) else A) else A)) =
    some (bif tstOk t && (decide (t.2.1 = 3) || decide (t.2.1 = 4)) then (tell t, true, ()) else ((0, 0), false, ())) := by
  cases h : tstOk t
  · rfl
  · by_cases h3 : t.2.1 = 3
    · rw [decide_eq_true h3, hA h (.inl h3)]; rfl
    · by_cases h4 : t.2.1 = 4
      · rw [decide_eq_true h4, decide_eq_false h3, hA h (.inr h4)]; rfl
      · rw [decide_eq_false h4, decide_eq_false h3]; rfl
/-- A test that is settled can be told. -/
theorem settled_tl {t : MTst} (h : tstOk t = true) (hs : t.2.1 = 3 ∨ t.2.1 = 4) : tlPre t = true := by
  unfold tstOk at h
  obtain ⟨hA, hB⟩ := Bool.and_eq_true_iff.1 h
  have hp := tsPre_of hA
  have h0 : t.2.1 ≠ 0 := by omega
  unfold tstOkB at hB
  rw [decide_eq_false h0, cond_false, Bool.and_eq_true] at hB
  have he : t.2.1 = stateOf t := of_decide_eq_true hB.1
  refine tlPre_iff.2 ⟨hp, fun c1 hne => ?_⟩
  unfold stateOf at he
  rw [c1, hne] at he
  simp only [List.length_nil, if_neg (show ¬ (1 : Int) = 0 by decide), if_neg (show ¬ (1 : Int) = 3 by decide), need, if_true] at he
  rw [if_pos (by decide)] at he
  omega
end Go.Proofs.Ytjmohfahchamaaa

set_option linter.unusedVariables false
set_option linter.unusedSimpArgs false
namespace Go.Proofs.Ytjmohfahchamaaa
open Go.Vm

theorem p_szLen (n : Nat) (l : Int) (h1 : n ≤ 9223372036854775807) (h2 : 0 ≤ l) (h3 : l ≤ 1048576) : (bif (decide ((w64 (l - (n : Int))) < (0 : Int))) then (some ((-1 : Int), ())) else (some ((w64 (l - (n : Int))), ()))) = some (if l < (n : Int) then -1 else l - (n : Int), ()) := by
  rw [w64_eq (by omega) (by omega)]
  by_cases h : l < n
  · rw [if_pos h, decide_eq_true (by omega)]; rfl
  · rw [if_neg h, decide_eq_false (by omega)]; rfl
theorem p_szPass (n : Nat) (l : Int) (h : 0 ≤ l) : (bif decide ((if l < (n : Int) then -1 else l - (n : Int)) < (0 : Int)) then (some ((-1 : Int), ())) else (some ((if l < (n : Int) then -1 else l - (n : Int)), ()))) = some ((if l < (n : Int) then -1 else l - (n : Int)), ()) := by
  by_cases h1 : l < (n : Int)
  · rw [if_pos h1]; rfl
  · rw [if_neg h1, decide_eq_false (by omega)]; rfl
/-- What is left behind so many. -/
def szN (n : Nat) (l : Int) : Int := if l < (n : Int) then -1 else l - (n : Int)
theorem szN_small {n : Nat} {l : Int} (h : l ≤ 1048576) (h2 : ¬ szN n l < 0) : n ≤ 1048576 := by
  unfold szN at h2; split at h2 <;> omega

theorem s_iisUser : C_iisUser (fun _ => true) (fun x => (inq x.1 1 5, ())) := S_iisUser s_iin fun x _ => ⟨0, ev_iisUser 0 x.1⟩
end Go.Proofs.Ytjmohfahchamaaa

set_option linter.unusedVariables false
set_option linter.unusedSimpArgs false
namespace Go.Proofs.Ytjmohfahchamaaa
open Go.Vm

theorem x_sl20Rd_pick : ∃ fn : In_sl20Rd_pick → Out_sl20Rd_pick, ∀ x, (fun x : In_sl20Rd_pick => rdB 1 x.1) x = true → (∃ k, E_sl20Rd_pick k x = some (fn x)) ∧ (fun (x : In_sl20Rd_pick) (v : Out_sl20Rd_pick) => Step 1 x.1 v.2.1 ∧ PickQ x.2 v.1) x (fn x) := by
  refine choose_fn (fun k x => E_sl20Rd_pick k x) (fun x : In_sl20Rd_pick => rdB 1 x.1) (fun (x : In_sl20Rd_pick) (v : Out_sl20Rd_pick) => Step 1 x.1 v.2.1 ∧ PickQ x.2 v.1) ((0 : Int), (([], 0), ())) fun x hx => ⟨0, ?_⟩
  have key : ∀ (b : List Int) (p n : Int), rdB 1 (b, p) = true → Gets (E_sl20Rd_pick 0 ((b, p), n, ())) (fun v => Step 1 (b, p) v.2.1 ∧ PickQ (n, ()) v.1) := by
    intro b p n hx
    obtain ⟨⟨hl, hb⟩, h0, h1⟩ := rdB_iff.1 hx
    have hl : b.length ≤ 2000 := hl
    have hb : ∀ y ∈ b, 0 ≤ y ∧ y ≤ 255 := hb
    have h0 : 0 ≤ p := h0
    have h1 : p + 1 ≤ 1000000 := h1
    rw [ev_sl20Rd_pick 0 (b, p) n]
    have e1 : w64 (p + 1) = p + 1 := w64_eq (by omega) (by omega)
    have e2 : w64 (p + 1 - 1) = p := by rw [w64_eq (by omega) (by omega)]; omega
    have e3 : w64 (p * 7) = p * 7 := w64_eq (by omega) (by omega)
    have e4 : w64 (p * 7 + 3) = p * 7 + 3 := w64_eq (by omega) (by omega)
    have hb' := rdL_byte hb
    simp only [e1, e2, e3, e4]
    have go : ∀ i : Int, 0 ≤ i → (1 ≤ n → i < n) → Step 1 (b, p) (b, p + 1) ∧ PickQ (n, ()) i := fun i hi hi2 =>
      ⟨⟨rfl, (by show p ≤ p + 1; omega), (by show p + 1 ≤ p + ((1 : Nat) : Int); omega)⟩, hi, hi2⟩
    refine gets_both (fun hc => gets_some (go _ (Int.le_refl _) fun h => Int.lt_of_lt_of_le Int.zero_lt_one h)) fun hc => gets_both (fun hc2 => gets_some (go _ (Int.le_refl _) fun h => Int.lt_of_lt_of_le Int.zero_lt_one h)) fun hc2 => ?_
    have hn : 1 ≤ n := Int.not_lt.1 (of_decide_eq_false hc)
    have hL : b.length ≠ 0 := by have := of_decide_eq_false hc2; omega
    have n0 : (bif decide (n = (0 : Int)) then false else true) = true := by rw [decide_eq_false (by omega)]; rfl
    refine gets_both (fun hc3 => ?_) fun hc3 => ?_
    · have hlt := of_decide_eq_true hc3
      refine gets_need (by rw [decide_eq_true h0]; exact hc3) (gets_need n0 (gets_some (go _ ?_ fun _ => ?_)))
      · exact byte_mod n (hb' p)
      · exact Int.tmod_lt_of_pos _ (by omega)
    · have hlen : ((b.length : Nat) : Int) ≠ 0 := by omega
      have hL0 : (bif decide ((b.length : Int) = (0 : Int)) then false else true) = true := by rw [decide_eq_false hlen]; rfl
      have tm : ∀ z : Int, 0 ≤ z → (bif decide ((0 : Int) ≤ Int.tmod z (b.length : Int)) then decide (Int.tmod z (b.length : Int) < (b.length : Int)) else false) = true := fun z hz => by
        rw [decide_eq_true (Int.tmod_nonneg _ hz)]; exact decide_eq_true (Int.tmod_lt_of_pos _ (by omega))
      refine gets_need hL0 (gets_need (tm p h0) (gets_need hL0 (gets_need (tm _ (by omega)) (gets_need hL0 (gets_need rfl (gets_need n0 (gets_some (go _ ?_ fun _ => Int.tmod_lt_of_pos _ (by omega)))))))))
      exact pick_arith n h0 (by omega) (hb' _) (hb' _) ⟨Int.tdiv_nonneg h0 (by omega), by rw [Int.tdiv_eq_ediv_of_nonneg h0]; exact Int.ediv_le_self _ h0⟩
  exact key x.1.1 x.1.2 x.2.1 hx
noncomputable def d_sl20Rd_pick := Classical.choose x_sl20Rd_pick
theorem q_sl20Rd_pick (r : MRd) (a : Int × Unit) (h : RdOk 1 r) : Step 1 r (d_sl20Rd_pick (r, a)).2.1 ∧ PickQ a (d_sl20Rd_pick (r, a)).1 := (Classical.choose_spec x_sl20Rd_pick (r, a) (rdB_iff.2 h)).2
theorem s_sl20Rd_pick : C_sl20Rd_pick (fun x => rdB 1 x.1) d_sl20Rd_pick := S_sl20Rd_pick fun x hx => (Classical.choose_spec x_sl20Rd_pick x hx).1

theorem x_sl20Dec : ∃ fn : In_sl20Dec → Out_sl20Dec, ∀ x, (fun x : In_sl20Dec => rdB 7 x.1) x = true → (∃ k, E_sl20Dec d_sl20Rd_pick (fun x => rdB 1 x.1) (fun x => (pw x.1, ())) (fun x => decide (x.1 ≤ 18)) k x = some (fn x)) ∧ (fun (x : In_sl20Dec) (v : Out_sl20Dec) => Step 7 x.1 v.2.1 ∧ True) x (fn x) := by
  refine choose_fn (fun k x => E_sl20Dec d_sl20Rd_pick (fun x => rdB 1 x.1) (fun x => (pw x.1, ())) (fun x => decide (x.1 ≤ 18)) k x) (fun x : In_sl20Dec => rdB 7 x.1) (fun (x : In_sl20Dec) (v : Out_sl20Dec) => Step 7 x.1 v.2.1 ∧ True) ((0, 0), (([], 0), ())) fun x hx => ?_
  have key : ∀ (r0 : MRd) (a1 : Int), RdOk 7 r0 → Gets (E_sl20Dec d_sl20Rd_pick (fun x => rdB 1 x.1) (fun x => (pw x.1, ())) (fun x => decide (x.1 ≤ 18)) 0 (r0, a1, ())) (fun v => Step 7 r0 v.2.1 ∧ True) := by
    intro r0 a1 h0
    have hs := Step.refl r0
    rw [ev_sl20Dec 0 r0 a1]
    repeat' first
      | refine then_go (Q := PickQ) q_sl20Rd_pick h0 rfl (by assumption) (by decide) fun y r' hq hs => ?_
      | refine gets_cl (pick_le (by assumption) (by decide) (by decide)) ?_
      | refine gets_need (pick_le (by assumption) (by decide) (by decide)) ?_
      | refine gets_need (pick_ix (by assumption) (by decide) (by exact Int.le_refl _)) ?_
      | exact gets_some ⟨Step.mono (by assumption) (by decide), trivial⟩
      | refine gets_both (fun hc => ?_) fun hc => ?_
  exact ⟨0, key x.1 x.2.1 (rdB_iff.1 hx)⟩
noncomputable def d_sl20Dec := Classical.choose x_sl20Dec
theorem c_sl20Dec (x : In_sl20Dec) (hx : (fun x : In_sl20Dec => rdB 7 x.1) x = true) : (fun (x : In_sl20Dec) (v : Out_sl20Dec) => Step 7 x.1 v.2.1 ∧ True) x (d_sl20Dec x) := (Classical.choose_spec x_sl20Dec x hx).2
theorem s_sl20Dec : C_sl20Dec (fun x => rdB 7 x.1) d_sl20Dec := S_sl20Dec s_sl20Rd_pick s_sl1Ten fun x hx => (Classical.choose_spec x_sl20Dec x hx).1
theorem q_sl20Dec (r : MRd) (a : Int × Unit) (h : RdOk 7 r) : Step 7 r (d_sl20Dec (r, a)).2.1 ∧ (True) := c_sl20Dec (r, a) (rdB_iff.2 h)
theorem x_sl20Ask : ∃ fn : In_sl20Ask → Out_sl20Ask, ∀ x, (fun x : In_sl20Ask => rdB 14 x.1) x = true → (∃ k, E_sl20Ask d_sl20Rd_pick (fun x => rdB 1 x.1) d_sl20Dec (fun x => rdB 7 x.1) k x = some (fn x)) ∧ (fun (x : In_sl20Ask) (v : Out_sl20Ask) => Step 14 x.1 v.2.1 ∧ True) x (fn x) := by
  refine choose_fn (fun k x => E_sl20Ask d_sl20Rd_pick (fun x => rdB 1 x.1) d_sl20Dec (fun x => rdB 7 x.1) k x) (fun x : In_sl20Ask => rdB 14 x.1) (fun (x : In_sl20Ask) (v : Out_sl20Ask) => Step 14 x.1 v.2.1 ∧ True) ((0, (0, 0), (0, 0), 0), (([], 0), ())) fun x hx => ?_
  have key : ∀ (r0 : MRd) (a1 : Int) (a2 : Int), RdOk 14 r0 → Gets (E_sl20Ask d_sl20Rd_pick (fun x => rdB 1 x.1) d_sl20Dec (fun x => rdB 7 x.1) 0 (r0, a1, a2, ())) (fun v => Step 14 r0 v.2.1 ∧ True) := by
    intro r0 a1 a2 h0
    have hs := Step.refl r0
    rw [ev_sl20Ask 0 r0 a1 a2]
    repeat' first
      | refine then_go (Q := PickQ) q_sl20Rd_pick h0 rfl (by assumption) (by decide) fun y r' hq hs => ?_
      | refine then_go (Q := fun a y => True) q_sl20Dec h0 rfl (by assumption) (by decide) fun y r' hq hs => ?_
      | refine gets_cl (pick_le (by assumption) (by decide) (by decide)) ?_
      | refine gets_need (pick_le (by assumption) (by decide) (by decide)) ?_
      | refine gets_need (pick_ix (by assumption) (by decide) (by exact Int.le_refl _)) ?_
      | exact gets_some ⟨Step.mono (by assumption) (by decide), trivial⟩
      | refine gets_both (fun hc => ?_) fun hc => ?_
  exact ⟨0, key x.1 x.2.1 x.2.2.1 (rdB_iff.1 hx)⟩
noncomputable def d_sl20Ask := Classical.choose x_sl20Ask
theorem c_sl20Ask (x : In_sl20Ask) (hx : (fun x : In_sl20Ask => rdB 14 x.1) x = true) : (fun (x : In_sl20Ask) (v : Out_sl20Ask) => Step 14 x.1 v.2.1 ∧ True) x (d_sl20Ask x) := (Classical.choose_spec x_sl20Ask x hx).2
theorem s_sl20Ask : C_sl20Ask (fun x => rdB 14 x.1) d_sl20Ask := S_sl20Ask s_sl20Rd_pick s_sl20Dec fun x hx => (Classical.choose_spec x_sl20Ask x hx).1
theorem q_sl20Ask (r : MRd) (a : Int × Int × Unit) (h : RdOk 14 r) : Step 14 r (d_sl20Ask (r, a)).2.1 ∧ (True) := c_sl20Ask (r, a) (rdB_iff.2 h)
theorem x_sl20Open : ∃ fn : In_sl20Open → Out_sl20Open, ∀ x, (fun x : In_sl20Open => bytesB x.1) x = true → (∃ k, E_sl20Open k x = some (fn x)) ∧ (fun (x : In_sl20Open) (v : Out_sl20Open) => RdOk 1000000 v.1) x (fn x) := by
  refine choose_fn (fun k x => E_sl20Open k x) (fun x : In_sl20Open => bytesB x.1) (fun (x : In_sl20Open) (v : Out_sl20Open) => RdOk 1000000 v.1) (([], 0), ()) fun x hx => ?_
  have key : ∀ xs : List Int, bytesB xs = true → Gets (E_sl20Open 0 (xs, ())) (fun v => RdOk 1000000 v.1) := by
    intro xs h
    rw [ev_sl20Open 0 xs]
    refine gets_both (fun hc => gets_need ?_ (gets_some (open_ok h))) fun hc => gets_some (open_ok2 h hc)
    have : (2000 : Int) < (xs.length : Int) := of_decide_eq_true hc
    show decide ((2000 : Int) ≤ (xs.length : Int)) = true
    exact decide_eq_true (by omega)
  exact ⟨0, key x.1 hx⟩
noncomputable def d_sl20Open := Classical.choose x_sl20Open
theorem c_sl20Open (x : In_sl20Open) (hx : (fun x : In_sl20Open => bytesB x.1) x = true) : (fun (x : In_sl20Open) (v : Out_sl20Open) => RdOk 1000000 v.1) x (d_sl20Open x) := (Classical.choose_spec x_sl20Open x hx).2
theorem s_sl20Open : C_sl20Open (fun x => bytesB x.1) d_sl20Open := S_sl20Open  fun x hx => (Classical.choose_spec x_sl20Open x hx).1
theorem x_sl20Tests : ∃ fn : In_sl20Tests → Out_sl20Tests, ∀ x, (fun x : In_sl20Tests => rdB 76 x.1) x = true → (∃ k, E_sl20Tests d_sl20Rd_pick (fun x => rdB 1 x.1) d_sl20Ask (fun x => rdB 14 x.1) k x = some (fn x)) ∧ (fun (x : In_sl20Tests) (v : Out_sl20Tests) => Step 76 x.1 v.2.1 ∧ (1 ≤ List.length v.1 ∧ List.length v.1 ≤ 5)) x (fn x) := by
  refine choose_fn (fun k x => E_sl20Tests d_sl20Rd_pick (fun x => rdB 1 x.1) d_sl20Ask (fun x => rdB 14 x.1) k x) (fun x : In_sl20Tests => rdB 76 x.1) (fun (x : In_sl20Tests) (v : Out_sl20Tests) => Step 76 x.1 v.2.1 ∧ (1 ≤ List.length v.1 ∧ List.length v.1 ≤ 5)) ([], (([], 0), ())) fun x hx => ?_
  have key : ∀ (r0 : MRd) (n : Int), RdOk 76 r0 → Gets (E_sl20Tests d_sl20Rd_pick (fun x => rdB 1 x.1) d_sl20Ask (fun x => rdB 14 x.1) 5 (r0, n, ())) (fun v => Step 76 r0 v.2.1 ∧ (1 ≤ List.length v.1 ∧ List.length v.1 ≤ 5)) := by
    intro r0 n h0
    rw [ev_sl20Tests 5 r0 n]
    refine gets_loop (σ := MRd × List MAsk) (fun k i s => r_sl20Tests d_sl20Rd_pick (fun x => rdB 1 x.1) d_sl20Ask (fun x => rdB 14 x.1) (r0, n, ()) k [false, true, false, true, true] (h0_sl20Tests r0 n ((i + 1 : Nat) : Int) s.1 s.2)) _ (fun i s => Step (15 * i) r0 s.1 ∧ List.length s.2 ≤ i) 4 (fun k s hs => ?_) (fun k i s hi hs next => ?_) 4 0 (r0, []) rfl ⟨Step.refl r0, Nat.le_refl _⟩
    · obtain ⟨r, l⟩ := s
      obtain ⟨hs, hl⟩ := hs
      have hs : Step 60 r0 r := hs
      have hl : List.length l ≤ 4 := hl
      show Gets (r_sl20Tests d_sl20Rd_pick (fun x => rdB 1 x.1) d_sl20Ask (fun x => rdB 14 x.1) (r0, n, ()) (k + 1) [false, true, false, true, true] (h0_sl20Tests r0 n ((4 + 1 : Nat) : Int) r l)) _
      rw [rd0_sl20Tests]
      refine gets_both (fun hc => ?_) fun _ => ?_
      · exact absurd (of_decide_eq_true hc) (by decide)
      · refine gets_both (fun hc => ?_) fun hc => ?_
        · have hl0 : l = [] := List.eq_nil_of_length_eq_zero (by have : (List.length l : Int) = 0 := of_decide_eq_true hc; omega)
          subst hl0
          refine then_go (Q := fun a y => True) q_sl20Ask h0 rfl hs (by decide) fun y r' _ hs => gets_need rfl (then_go (Q := PickQ) q_sl20Rd_pick h0 rfl hs (by decide) fun z r' _ hs => gets_both (fun hc => gets_need rfl (gets_need rfl (gets_some ⟨hs.mono (by decide), ?_⟩))) fun hc => gets_some ⟨hs.mono (by decide), ?_⟩)
          · show (1 : Nat) ≤ 2 ∧ 2 ≤ 5
            decide
          · show (1 : Nat) ≤ 1 ∧ 1 ≤ 5
            decide
        · have hl0 : 1 ≤ List.length l := by have : ¬ ((List.length l : Int) = 0) := of_decide_eq_false hc; omega
          refine then_go (Q := PickQ) q_sl20Rd_pick h0 rfl hs (by decide) fun z r' _ hs => gets_both (fun hc => gets_need ?_ (gets_need (fitL_eq (by show l.length + 1 ≤ _; omega)) (gets_some ⟨hs.mono (by decide), ?_⟩))) fun hc => gets_some ⟨hs.mono (by decide), hl0, ?_⟩
          · show decide ((0 : Int) < (List.length l : Int)) = true
            exact decide_eq_true (by omega)
          · show 1 ≤ List.length (l ++ [_]) ∧ List.length (l ++ [_]) ≤ 5
            rw [List.length_append]; exact ⟨by omega, by show l.length + 1 ≤ 5; omega⟩
          · show l.length ≤ 5
            omega
    · obtain ⟨r, l⟩ := s
      obtain ⟨hs, hl⟩ := hs
      have hs : Step (15 * i) r0 r := hs
      have hl : List.length l ≤ i := hl
      have hw : w64 (((i + 1 : Nat) : Int) + 1) = ((i + 1 + 1 : Nat) : Int) := w_succ (by omega)
      show Gets (r_sl20Tests d_sl20Rd_pick (fun x => rdB 1 x.1) d_sl20Ask (fun x => rdB 14 x.1) (r0, n, ()) (k + 1) [false, true, false, true, true] (h0_sl20Tests r0 n ((i + 1 : Nat) : Int) r l)) _
      rw [rd0_sl20Tests, hw]
      refine gets_both (fun _ => ?_) fun hc => absurd (show ((i + 1 : Nat) : Int) ≤ 4 by omega) (of_decide_eq_false hc)
      refine then_go (Q := PickQ) q_sl20Rd_pick h0 rfl hs (by omega) fun z r' _ hs => gets_both (fun hc => ?_) fun hc => ?_
      · refine then_go (Q := fun a y => True) q_sl20Ask h0 rfl hs (by omega) fun y r' _ hs => gets_need (fitL_eq (by show l.length + 1 ≤ _; omega)) ?_
        refine next (r', l ++ [y]) ⟨hs.mono (by omega), ?_⟩
        show List.length (l ++ [y]) ≤ i + 1
        rw [List.length_append]; show l.length + 1 ≤ i + 1; omega
      · exact next (r', l) ⟨hs.mono (by omega), by show l.length ≤ i + 1; omega⟩
  exact ⟨5, key x.1 x.2.1 (rdB_iff.1 hx)⟩
noncomputable def d_sl20Tests := Classical.choose x_sl20Tests
theorem c_sl20Tests (x : In_sl20Tests) (hx : (fun x : In_sl20Tests => rdB 76 x.1) x = true) : (fun (x : In_sl20Tests) (v : Out_sl20Tests) => Step 76 x.1 v.2.1 ∧ (1 ≤ List.length v.1 ∧ List.length v.1 ≤ 5)) x (d_sl20Tests x) := (Classical.choose_spec x_sl20Tests x hx).2
theorem s_sl20Tests : C_sl20Tests (fun x => rdB 76 x.1) d_sl20Tests := S_sl20Tests s_sl20Rd_pick s_sl20Ask fun x hx => (Classical.choose_spec x_sl20Tests x hx).1
theorem q_sl20Tests (r : MRd) (a : Int × Unit) (h : RdOk 76 r) : Step 76 r (d_sl20Tests (r, a)).2.1 ∧ (1 ≤ List.length (d_sl20Tests (r, a)).1 ∧ List.length (d_sl20Tests (r, a)).1 ≤ 5) := c_sl20Tests (r, a) (rdB_iff.2 h)
end Go.Proofs.Ytjmohfahchamaaa

set_option linter.unusedVariables false
set_option linter.unusedSimpArgs false
namespace Go.Proofs.Ytjmohfahchamaaa
open Go.Vm

theorem s_iDayLeap : C_iDayLeap (fun _ => true) (fun x => (decide (Int.tmod x.1 4 = 0) && (!decide (Int.tmod x.1 100 = 0) || decide (Int.tmod x.1 400 = 0)), ())) := S_iDayLeap fun x _ => ⟨0, (ev_iDayLeap 0 x.1).trans (by
  have key : ∀ y : Int, (bif (bif (decide ((4 : Int) = (0 : Int))) then false else true) then (bif (decide ((Int.tmod y (4 : Int)) = (0 : Int))) then (bif (bif (decide ((100 : Int) = (0 : Int))) then false else true) then (bif (bif (decide ((Int.tmod y (100 : Int)) = (0 : Int))) then false else true) then (some (true, ())) else (bif (bif (decide ((400 : Int) = (0 : Int))) then false else true) then (some ((decide ((Int.tmod y (400 : Int)) = (0 : Int))), ())) else none)) else none) else (some (false, ()))) else none) = some (decide (Int.tmod y 4 = 0) && (!decide (Int.tmod y 100 = 0) || decide (Int.tmod y 400 = 0)), ()) := fun y => by
    cases decide (Int.tmod y 4 = 0)
    · rfl
    · cases decide (Int.tmod y 100 = 0) <;> rfl
  exact key x.1)⟩
theorem s_iDayLast : C_iDayLast (fun x => decide (x.1 = 2000) && decide (x.2.1 = 2)) (fun _ => ((29 : Int), ())) := S_iDayLast s_iin s_iDayLeap fun x hx => by
  have hx : (decide (x.1 = 2000) && decide (x.2.1 = 2)) = true := hx
  simp only [Bool.and_eq_true, decide_eq_true_eq] at hx
  obtain ⟨a, b, u⟩ := x
  obtain ⟨h1, h2⟩ := hx
  have h1 : a = 2000 := h1
  have h2 : b = 2 := h2
  subst h1 h2
  exact ⟨0, ev_iDayLast 0 2000 2⟩
theorem s_iDayOk : C_iDayOk (fun x => decide (x.1.1 = 2000) && (decide (x.1.2.1 = 2) && decide (x.1.2.2 = 29))) (fun _ => (true, ())) := S_iDayOk s_iin s_iDayLast fun x hx => by
  have hx : (decide (x.1.1 = 2000) && (decide (x.1.2.1 = 2) && decide (x.1.2.2 = 29))) = true := hx
  simp only [Bool.and_eq_true, decide_eq_true_eq] at hx
  obtain ⟨⟨a, b, c⟩, u⟩ := x
  obtain ⟨h1, h2, h3⟩ := hx
  have h1 : a = 2000 := h1
  have h2 : b = 2 := h2
  have h3 : c = 29 := h3
  subst h1 h2 h3
  exact ⟨0, ev_iDayOk 0 (2000, 2, 29)⟩
theorem s_lcuOk : C_lcuOk (fun _ => true) (fun _ => (true, ())) := S_lcuOk s_iDayOk fun x _ => ⟨0, ev_lcuOk 0⟩

noncomputable def spcFind (l : List MAsk) (n : Int) : MAsk × Bool := bif decide (idxOf (fun t : MAsk => decide (t.1 = n)) l 0 < 0) then ((0, (0, 0), (0, 0), 0), false) else (rdL (e := S_SpcTest) l (idxOf (fun t : MAsk => decide (t.1 = n)) l 0), true)
theorem s_iTstNew : C_iTstNew (fun _ => true) (fun x => ((x.1, 0, (0, 0), 0, []), ())) := S_iTstNew fun x _ => ⟨0, ev_iTstNew 0 x.1⟩
theorem s_sTstNew : C_sTstNew (fun _ => true) (fun x => ((x.1, 0, (0, 0), 0, []), ())) := S_sTstNew fun x _ => ⟨0, ev_sTstNew 0 x.1⟩

theorem beq_ask (a b : MAsk) : Sh.beq S_SpcTest a b = same a b := by
  show (decide (a.1 = b.1) && ((decide (a.2.1.1 = b.2.1.1) && decide (a.2.1.2 = b.2.1.2)) && ((decide (a.2.2.1.1 = b.2.2.1.1) && decide (a.2.2.1.2 = b.2.2.1.2)) && decide (a.2.2.2 = b.2.2.2)))) = _
  simp only [same_int, same_pair]
theorem s_lcuDecs : C_lcuDecs (fun x => decide (List.length x.1 ≤ 4294967296)) (fun x => (same x.1 x.2.1, ())) := S_lcuDecs fun x hx => ⟨List.length x.1 + 1, (ev_lcuDecs _ x.1 x.2.1).trans (by
  have hx : List.length x.1 ≤ 4294967296 := of_decide_eq_true hx
  by_cases hl : List.length x.1 = List.length x.2.1
  · rw [hl, decide_eq_true rfl, ← hl]
    refine eq_loop (α := MDec) x.1 x.2.1 hl (fun k i => r_lcuDecs (x.1, x.2.1, ()) k [false, true, false, true, true] (h0_lcuDecs x.1 x.2.1 (i : Int))) (fun k => ?_) (fun k i a b r r' hd hd' hi hi' => ?_)
    · rw [rd0_lcuDecs, lt_false (Nat.le_refl _)]; rfl
    · rw [rd0_lcuDecs, in_true hi, in_true hi', lt_true hi, w_succ (by omega), rdL_drop hd, rdL_drop hd', beq_dec]
      cases same a b <;> rfl
  · rw [decide_eq_false (by omega), same_false (fun e => hl (congrArg List.length e))]; rfl)⟩
theorem s_lcuTest : C_lcuTest (fun x => decide (List.length x.1.2.2.2.2 ≤ 4294967296)) (fun x => (same x.1 x.2.1, ())) := S_lcuTest s_lcuDecs fun x hx => ⟨0, (ev_lcuTest 0 x.1 x.2.1).trans (by
  have hx : decide (List.length x.1.2.2.2.2 ≤ 4294967296) = true := hx
  have key : ∀ a b : MTst, (bif same a.1 b.1 then (bif decide (a.2.1 = b.2.1) then (bif same a.2.2.1 b.2.2.1 then (bif decide (a.2.2.2.1 = b.2.2.2.1) then some (same a.2.2.2.2 b.2.2.2.2, ()) else some (false, ())) else some (false, ())) else some (false, ())) else some (false, ())) = some (same a b, ()) := by
    intro a b
    rw [← same_pair a.1 b.1, ← same_pair a.2.1 b.2.1, ← same_pair a.2.2.1 b.2.2.1, ← same_pair a.2.2.2.1 b.2.2.2.1, same_int, same_int]
    cases same a.1 b.1 <;> cases same a.2.1 b.2.1 <;> cases same a.2.2.1 b.2.2.1 <;> cases same a.2.2.2.1 b.2.2.2.1 <;> rfl
  simp only [hx, cond_true]
  exact (by rw [beq_ask, beq_dec]; exact key x.1 x.2.1))⟩

end Go.Proofs.Ytjmohfahchamaaa

set_option linter.unusedVariables false
set_option linter.unusedSimpArgs false
namespace Go.Proofs.Ytjmohfahchamaaa
open Go.Vm

theorem rd_spc (l : List MSpc) (k : Int) : rdL (e := S_SpcSpec) l k = l.getD k.toNat ([], 0) := rfl
end Go.Proofs.Ytjmohfahchamaaa

set_option linter.unusedVariables false
set_option linter.unusedSimpArgs false
namespace Go.Proofs.Ytjmohfahchamaaa
open Go.Vm
theorem rdL_set {S : Sh} {l : List S.den} {i : Nat} {x : S.den} (h : i < l.length) : rdL (e := S) (l.set i x) (i : Int) = x := by
  unfold rdL
  rw [Int.toNat_natCast, List.getD_eq_getElem?_getD, List.getElem?_set_self h]; rfl
end Go.Proofs.Ytjmohfahchamaaa

set_option linter.unusedVariables false
set_option linter.unusedSimpArgs false
namespace Go.Proofs.Ytjmohfahchamaaa
open Go.Vm
def smT (t : MTst) : Bool := decide (t.2.2.2.2.length ≤ 4294967296)
theorem p_clone {α : Type} (l : List α) (hl : l.length ≤ 4294967296) : (bif (List.isEmpty l) then (agree (some (([] : List α), ())) (bif (fitL [] l) then (some ((List.append [] l), ())) else none)) else (bif (fitL [] l) then (some ((List.append [] l), ())) else none)) = some (l, ()) := by
  rw [fitL_eq (by show 0 + l.length ≤ _; omega)]
  cases l with
  | nil => unfold agree; exact if_pos rfl
  | cons a r => rfl
theorem p_turn {β : Type} (a b c : Bool) (A B : β) : (bif (bif a then false else true) then B else (bif (bif b then false else true) then B else (bif (bif c then false else true) then B else A))) = bif a && (b && c) then A else B := by
  cases a <;> cases b <;> cases c <;> rfl
theorem ok_len {t : MTst} (h : tstOk t = true) : t.2.2.2.2.length ≤ 2 := (tsPre_iff.1 (tsPre_of (tstOk_iff.1 h).1)).2.2.2
end Go.Proofs.Ytjmohfahchamaaa

set_option linter.unusedVariables false
set_option linter.unusedSimpArgs false
namespace Go.Proofs.Ytjmohfahchamaaa
open Go.Vm
theorem smT_of {t : MTst} {n : Nat} (h : List.length t.2.2.2.2 ≤ n) (hn : n ≤ 4294967296) : smT t = true := decide_eq_true (Nat.le_trans h hn)
theorem x_sDrawBatNew : ∃ fn : In_sDrawBatNew → Out_sDrawBatNew, ∀ x, (fun x : In_sDrawBatNew => bytesB x.1) x = true → (∃ k, E_sDrawBatNew d_sl20Open (fun x => bytesB x.1) d_sl20Rd_pick (fun x => rdB 1 x.1) d_sl20Tests (fun x => rdB 76 x.1) k x = some (fn x)) ∧ (fun (x : In_sDrawBatNew) (v : Out_sDrawBatNew) => (1 ≤ List.length v.2.1 ∧ List.length v.2.1 ≤ 5)) x (fn x) := by
  refine choose_fn (fun k x => E_sDrawBatNew d_sl20Open (fun x => bytesB x.1) d_sl20Rd_pick (fun x => rdB 1 x.1) d_sl20Tests (fun x => rdB 76 x.1) k x) (fun x : In_sDrawBatNew => bytesB x.1) (fun (x : In_sDrawBatNew) (v : Out_sDrawBatNew) => (1 ≤ List.length v.2.1 ∧ List.length v.2.1 ≤ 5)) (0, [], 0, ()) fun x hx => ?_
  have key : ∀ xs : List Int, bytesB xs = true → Gets (E_sDrawBatNew d_sl20Open (fun x => bytesB x.1) d_sl20Rd_pick (fun x => rdB 1 x.1) d_sl20Tests (fun x => rdB 76 x.1) 0 (xs, ())) (fun v => (1 ≤ List.length v.2.1 ∧ List.length v.2.1 ≤ 5)) := by
    intro xs h
    rw [ev_sDrawBatNew 0 xs]
    refine then_fst (Q := fun r => RdOk 1000000 r) h (c_sl20Open (xs, ()) h) fun r0 h0 => ?_
    have hs := Step.refl r0
    repeat' first
      | refine then_go (Q := PickQ) q_sl20Rd_pick h0 rfl (by assumption) (by decide) fun y r' hq hs => ?_
      | refine then_go (Q := fun a y => 1 ≤ List.length y ∧ List.length y ≤ 5) q_sl20Tests h0 rfl (by assumption) (by decide) fun y r' hq hs => ?_
      | refine gets_need (pick_ix (by assumption) (by decide) (by exact Int.le_refl _)) ?_
      | exact gets_some (by assumption)
      | refine gets_both (fun hc => ?_) fun hc => ?_
  exact ⟨0, key x.1 hx⟩
noncomputable def d_sDrawBatNew := Classical.choose x_sDrawBatNew
theorem c_sDrawBatNew (x : In_sDrawBatNew) (hx : (fun x : In_sDrawBatNew => bytesB x.1) x = true) : (fun (x : In_sDrawBatNew) (v : Out_sDrawBatNew) => (1 ≤ List.length v.2.1 ∧ List.length v.2.1 ≤ 5)) x (d_sDrawBatNew x) := (Classical.choose_spec x_sDrawBatNew x hx).2
theorem s_sDrawBatNew : C_sDrawBatNew (fun x => bytesB x.1) d_sDrawBatNew := S_sDrawBatNew s_sl20Open s_sl20Rd_pick s_sl20Tests fun x hx => (Classical.choose_spec x_sDrawBatNew x hx).1

end Go.Proofs.Ytjmohfahchamaaa

set_option linter.unusedVariables false
set_option linter.unusedSimpArgs false
namespace Go.Proofs.Ytjmohfahchamaaa
open Go.Vm
theorem p_batNew {k n : Int} {l : List MAsk} (A : Option (MBat × Unit)) (hA : inq k 0 5 = true → testsOk l = true → inq n 1 10000 = true → A = some ((k, n, l.map newT, 1, [], []), ())) :
    (bif (bif inq k 0 5 then false else true) then (some (((0 : Int), ((0 : Int), ([], ((0 : Int), ([], []))))), ())) else (bif (bif testsOk l then false else true) then (some (((0 : Int), ((0 : Int), ([], ((0 : Int), ([], []))))), ())) else (bif (bif inq n 1 10000 then false else true) then (some (((0 : Int), ((0 : Int), ([], ((0 : Int), ([], []))))), ())) else A))) = some (batNew k l n, ()) := by
  unfold batNew
  cases h1 : inq k 0 5
  · rfl
  · cases h2 : testsOk l
    · rfl
    · cases h3 : inq n 1 10000
      · rfl
      · exact hA h1 h2 h3
theorem s_iBatNew : C_iBatNew (fun x => smA x.2.1) (fun x => (batNew x.1 x.2.1 x.2.2.1, ())) := S_iBatNew s_iin s_iSpcTestsOk s_iTstNew fun x hx => ⟨List.length x.2.1 + 1, (ev_iBatNew _ x.1 x.2.1 x.2.2.1).trans (by
  obtain ⟨k, l, n, u⟩ := x
  change List MAsk at l
  have hx : decide (List.length l ≤ 4294967296) = true := hx
  have hl : List.length l ≤ 4294967296 := of_decide_eq_true hx
  simp only [cl, hx, cond_true]
  refine p_batNew (l := l) _ fun h1 h2 h3 => ?_
  have := list_loop (σ := List MTst) l (fun f i out => r_iBatNew (fun x => (inq x.1 x.2.1 x.2.2.1, ())) (fun x => (testsOk x.1, ())) (fun x => decide (List.length x.1 ≤ 4294967296)) (fun x => ((x.1, 0, (0, 0), 0, []), ())) (k, l, n, ()) f [false, true, false, true, true, true] (h0_iBatNew k l n (List.length l : Int) (i : Int) (0 : Int) (0 : Int) (0 : Int) [] [] [] (1 : Int) out [] [])) (fun r i out => ((k, n, out ++ r.map newT, 1, [], []), ())) (fun i out => out.length = i) (fun f s hs => by
    rw [rd0_iBatNew, lt_false (Nat.le_refl _), List.map_nil, List.append_nil]; rfl) (fun f i y r s hd hi hs => by
    refine .inr ⟨s ++ [newT y], by rw [List.length_append]; show s.length + 1 = i + 1; omega, ?_, by simp⟩
    rw [rd0_iBatNew, in_true hi, lt_true hi, w_succ (by omega), rdL_drop hd, fitL_eq (by show s.length + 1 ≤ _; omega)]; rfl) l.length 0 [] (by omega) rfl
  simpa using this)⟩
theorem s_sBatNew : C_sBatNew (fun x => smA x.2.1) (fun x => (batNew x.1 x.2.1 x.2.2.1, ())) := S_sBatNew s_sl1In s_sSpcTestsOk s_sTstNew fun x hx => ⟨List.length x.2.1 + 1, (ev_sBatNew _ x.1 x.2.1 x.2.2.1).trans (by
  obtain ⟨k, l, n, u⟩ := x
  change List MAsk at l
  have hl : List.length l ≤ 4294967296 := of_decide_eq_true hx
  refine p_batNew (l := l) _ fun h1 h2 h3 => ?_
  have := list_loop (σ := List MTst) l (fun f i out => r_sBatNew (fun x => (inq x.1 x.2.1 x.2.2.1, ())) (fun x => (testsOk x.1, ())) (fun x => ((x.1, 0, (0, 0), 0, []), ())) (k, l, n, ()) f [false, true, false, true, true, true] (h0_sBatNew k l n (i : Int) (0 : Int) (0 : Int) (0 : Int) [] [] [] (1 : Int) out [] [])) (fun r i out => ((k, n, out ++ r.map newT, 1, [], []), ())) (fun i out => out.length = i) (fun f s hs => by
    rw [rd0_sBatNew, lt_false (Nat.le_refl _), List.map_nil, List.append_nil]; rfl) (fun f i y r s hd hi hs => by
    refine .inr ⟨s ++ [newT y], by rw [List.length_append]; show s.length + 1 = i + 1; omega, ?_, by simp⟩
    rw [rd0_sBatNew, in_true hi, lt_true hi, w_succ (by omega), rdL_drop hd, fitL_eq (by show s.length + 1 ≤ _; omega)]; rfl) l.length 0 [] (by omega) rfl
  simpa using this)⟩
theorem beq_sig (a b : MSig) : Sh.beq S_BatSig a b = same a b := by
  show (decide (a.1 = b.1) && (decide (a.2.1 = b.2.1) && decide (a.2.2 = b.2.2))) = _
  simp only [same_int, same_pair]
theorem beq_bool (a b : Bool) : (a == b) = same a b := by
  cases a <;> cases b <;> first | exact (same_self _).symm | exact (same_false (by decide)).symm
theorem same_bat (a b : MBat) : same a b = (same a.1 b.1 && (same a.2.1 b.2.1 && (same a.2.2.2.1 b.2.2.2.1 && (same a.2.2.1 b.2.2.1 && (same a.2.2.2.2.1 b.2.2.2.2.1 && same a.2.2.2.2.2 b.2.2.2.2.2))))) := by
  rw [show same a b = same (a.1, a.2.1, a.2.2.1, a.2.2.2.1, a.2.2.2.2.1, a.2.2.2.2.2) (b.1, b.2.1, b.2.2.1, b.2.2.2.1, b.2.2.2.2.1, b.2.2.2.2.2) from rfl, ← same_pair, ← same_pair, ← same_pair, ← same_pair, ← same_pair]
  cases same a.1 b.1 <;> cases same a.2.1 b.2.1 <;> cases same a.2.2.1 b.2.2.1 <;> cases same a.2.2.2.1 b.2.2.2.1 <;> rfl
theorem s_lcuBatch : C_lcuBatch (fun x => smB x.1) (fun x => (same x.1 x.2.1, ())) := S_lcuBatch s_lcuTest fun x hx => by
  obtain ⟨a, b, u⟩ := x
  change MBat at a
  change MBat at b
  have hx : smB a = true := hx
  obtain ⟨h1, h2, h3, h4⟩ := smB_iff.1 hx
  show ∃ k, E_lcuBatch (fun x => (same x.1 x.2.1, ())) (fun x => decide (List.length x.1.2.2.2.2 ≤ 4294967296)) k (a, b, ()) = some (same a b, ())
  have key : (List.length a.2.2.1 = List.length b.2.2.1 → List.length a.2.2.2.2.1 = List.length b.2.2.2.2.1 → List.length a.2.2.2.2.2 = List.length b.2.2.2.2.2 → ∃ k, r_lcuBatch (fun x => (same x.1 x.2.1, ())) (fun x => decide (List.length x.1.2.2.2.2 ≤ 4294967296)) (a, b, ()) k [false, true, false, true, true] (h0_lcuBatch a b (0 : Int)) = some (same a.2.2.1 b.2.2.1 && (same a.2.2.2.2.1 b.2.2.2.2.1 && same a.2.2.2.2.2 b.2.2.2.2.2), ())) := by
    intro e1 e2 e3
    refine eq_loop2 (α := MTst) a.2.2.1 b.2.2.1 e1 _ (fun k i => r_lcuBatch (fun x => (same x.1 x.2.1, ())) (fun x => decide (List.length x.1.2.2.2.2 ≤ 4294967296)) (a, b, ()) k [false, true, false, true, true] (h0_lcuBatch a b (i : Int))) ?_ (fun k i y z r r' hd hd' hi hi' => ?_)
    · obtain ⟨k, hk⟩ := eq_loop2 (α := MSig) a.2.2.2.2.1 b.2.2.2.2.1 e2 (same a.2.2.2.2.2 b.2.2.2.2.2) (fun k i => r_lcuBatch (fun x => (same x.1 x.2.1, ())) (fun x => decide (List.length x.1.2.2.2.2 ≤ 4294967296)) (a, b, ()) k [false, true, false, true, true, true] (h1_lcuBatch a b (i : Int))) (by
        obtain ⟨k, hk⟩ := eq_loop2 (α := Bool) a.2.2.2.2.2 b.2.2.2.2.2 e3 true (fun k i => r_lcuBatch (fun x => (same x.1 x.2.1, ())) (fun x => decide (List.length x.1.2.2.2.2 ≤ 4294967296)) (a, b, ()) k [false, true, false, true, true, true, true] (h2_lcuBatch a b (i : Int))) ⟨1, by rw [rd2_lcuBatch, lt_false (Nat.le_refl _)]; rfl⟩ (fun k i y z r r' hd hd' hi hi' => by
          rw [rd2_lcuBatch, in_true hi, in_true hi', lt_true hi, w_succ (by omega), rdL_drop hd, rdL_drop hd', beq_bool]
          cases same y z <;> rfl)
        rw [Bool.and_true] at hk
        exact ⟨k + 1, by rw [rd1_lcuBatch, lt_false (Nat.le_refl _)]; exact hk⟩) (fun k i y z r r' hd hd' hi hi' => by
          rw [rd1_lcuBatch, in_true hi, in_true hi', lt_true hi, w_succ (by omega), rdL_drop hd, rdL_drop hd', beq_sig]
          cases same y z <;> rfl)
      exact ⟨k + 1, by rw [rd0_lcuBatch, lt_false (Nat.le_refl _)]; exact hk⟩
    · have hp : decide (List.length y.2.2.2.2 ≤ 4294967296) = true := decide_eq_true (h2 y (mem_drop hd))
      rw [rd0_lcuBatch, in_true hi, in_true hi', lt_true hi, w_succ (by omega), rdL_drop hd, rdL_drop hd']
      simp only [cl, hp, cond_true]
      cases same y z <;> rfl
  rw [same_bat a b]
  have ev := fun k => ev_lcuBatch (g_lcuTest := fun x => (same x.1 x.2.1, ())) (p_lcuTest := fun x => decide (List.length x.1.2.2.2.2 ≤ 4294967296)) k a b
  simp only [ev, same_int]
  cases same a.1 b.1
  · exact ⟨0, rfl⟩
  · cases same a.2.1 b.2.1
    · exact ⟨0, rfl⟩
    · cases same a.2.2.2.1 b.2.2.2.1
      · exact ⟨0, rfl⟩
      · by_cases e1 : List.length a.2.2.1 = List.length b.2.2.1
        · by_cases e2 : List.length a.2.2.2.2.1 = List.length b.2.2.2.2.1
          · by_cases e3 : List.length a.2.2.2.2.2 = List.length b.2.2.2.2.2
            · obtain ⟨k, hk⟩ := key e1 e2 e3
              refine ⟨k, ?_⟩
              simp only [e1, e2, e3, same_self, cond_true, cond_false, Bool.true_and]
              exact hk
            · refine ⟨0, ?_⟩
              have e3' : same (List.length a.2.2.2.2.2 : Int) (List.length b.2.2.2.2.2 : Int) = false := same_false (by omega)
              rw [same_len e3, e3']
              simp only [e1, e2, same_self, cond_true, cond_false, Bool.and_false]
          · refine ⟨0, ?_⟩
            have e2' : same (List.length a.2.2.2.2.1 : Int) (List.length b.2.2.2.2.1 : Int) = false := same_false (by omega)
            rw [same_len e2, e2']
            simp only [e1, same_self, cond_true, cond_false, Bool.and_false, Bool.false_and]
        · refine ⟨0, ?_⟩
          have e1' : same (List.length a.2.2.1 : Int) (List.length b.2.2.1 : Int) = false := same_false (by omega)
          rw [same_len e1, e1']
          simp only [cond_true, cond_false, Bool.and_false, Bool.false_and]
theorem s_isigns : C_isigns (fun _ => true) (fun x => (signs x.1, ())) := S_isigns fun x _ => ⟨0, (ev_isigns 0 x.1).trans (by
  have key : ∀ c : Int, (bif (decide (c = (2 : Int))) then (some (true, ())) else (some ((decide (c = (3 : Int))), ()))) = some (signs c, ()) := fun c => by
    unfold signs; cases decide (c = 2) <;> rfl
  exact key x.1)⟩
theorem s_iBatSig_ok : C_iBatSig_ok (fun _ => true) (fun x => (sigOk x.1, ())) := S_iBatSig_ok s_iisUser s_isigns s_iin fun x _ => ⟨0, (ev_iBatSig_ok 0 x.1).trans (by
  have key : ∀ s : MSig, (bif inq s.1 1 5 then (bif signs s.2.1 then some (inq s.2.2 0 999982, ()) else some (false, ())) else some (false, ())) = some (sigOk s, ()) := fun s => by
    unfold sigOk; cases inq s.1 1 5 <;> cases signs s.2.1 <;> rfl
  exact key x.1)⟩
theorem s_iBatOk_c1 : C_iBatOk_c1 (fun _ => true) (fun x => (!sigOk x.1, ())) := S_iBatOk_c1 s_iBatSig_ok fun x _ => ⟨0, (ev_iBatOk_c1 0 x.1).trans (by simp only [bif_not])⟩
theorem s_iBatBatch_gate_c1 : C_iBatBatch_gate_c1 (fun _ => true) (fun x => (!passed x.1, ())) := S_iBatBatch_gate_c1 fun x _ => ⟨0, (ev_iBatBatch_gate_c1 0 x.1).trans (by simp only [bif_not]; rfl)⟩

theorem s_gIndexFunc_BatSig__iBatOk_c1 : C_gIndexFunc_BatSig__iBatOk_c1 (fun x => decide (List.length x.1 ≤ 4294967296)) (fun x => (idxOf (fun d : MSig => !sigOk d) x.1 0, ())) := S_gIndexFunc_BatSig__iBatOk_c1 s_iBatOk_c1 fun x hx => ⟨List.length x.1 + 1, (ev_gIndexFunc_BatSig__iBatOk_c1 _ x.1 x.2.1).trans (by
  have hx : List.length x.1 ≤ 4294967296 := of_decide_eq_true hx
  refine idx_loop (α := MSig) x.1 (fun d => !sigOk d) (fun k i => r_gIndexFunc_BatSig__iBatOk_c1 (fun x => (!sigOk x.1, ())) (fun _ => true) (x.1, x.2.1, ()) k [false, true, false, true] (h0_gIndexFunc_BatSig__iBatOk_c1 x.1 x.2.1 (List.length x.1 : Int) (i : Int))) (fun k => ?_) (fun k i y r hd hi => ?_)
  · rw [rd0_gIndexFunc_BatSig__iBatOk_c1, lt_false (Nat.le_refl _)]; rfl
  · rw [rd0_gIndexFunc_BatSig__iBatOk_c1, in_true hi, lt_true hi, w_succ (by omega), rdL_drop hd]; rfl)⟩
theorem s_gContainsFunc_BatSig__iBatOk_c1 : C_gContainsFunc_BatSig__iBatOk_c1 (fun x => decide (List.length x.1 ≤ 4294967296)) (fun x => (List.any x.1 (fun d : MSig => !sigOk d), ())) := S_gContainsFunc_BatSig__iBatOk_c1 s_gIndexFunc_BatSig__iBatOk_c1 fun x hx => ⟨0, (ev_gContainsFunc_BatSig__iBatOk_c1 0 x.1 x.2.1).trans (by
  have hx : decide (List.length x.1 ≤ 4294967296) = true := hx
  simp only [cl, hx, cond_true, idxOf_any])⟩
theorem s_gIndexFunc_TstTest__iBatBatch_gate_c1 : C_gIndexFunc_TstTest__iBatBatch_gate_c1 (fun x => decide (List.length x.1 ≤ 4294967296)) (fun x => (idxOf (fun d : MTst => !passed d) x.1 0, ())) := S_gIndexFunc_TstTest__iBatBatch_gate_c1 s_iBatBatch_gate_c1 fun x hx => ⟨List.length x.1 + 1, (ev_gIndexFunc_TstTest__iBatBatch_gate_c1 _ x.1 x.2.1).trans (by
  have hx : List.length x.1 ≤ 4294967296 := of_decide_eq_true hx
  refine idx_loop (α := MTst) x.1 (fun d => !passed d) (fun k i => r_gIndexFunc_TstTest__iBatBatch_gate_c1 (fun x => (!passed x.1, ())) (x.1, x.2.1, ()) k [false, true, false, true] (h0_gIndexFunc_TstTest__iBatBatch_gate_c1 x.1 x.2.1 (List.length x.1 : Int) (i : Int))) (fun k => ?_) (fun k i y r hd hi => ?_)
  · rw [rd0_gIndexFunc_TstTest__iBatBatch_gate_c1, lt_false (Nat.le_refl _)]; rfl
  · rw [rd0_gIndexFunc_TstTest__iBatBatch_gate_c1, in_true hi, lt_true hi, w_succ (by omega), rdL_drop hd]; rfl)⟩
theorem s_gContainsFunc_TstTest__iBatBatch_gate_c1 : C_gContainsFunc_TstTest__iBatBatch_gate_c1 (fun x => decide (List.length x.1 ≤ 4294967296)) (fun x => (List.any x.1 (fun d : MTst => !passed d), ())) := S_gContainsFunc_TstTest__iBatBatch_gate_c1 s_gIndexFunc_TstTest__iBatBatch_gate_c1 fun x hx => ⟨0, (ev_gContainsFunc_TstTest__iBatBatch_gate_c1 0 x.1 x.2.1).trans (by
  have hx : decide (List.length x.1 ≤ 4294967296) = true := hx
  simp only [cl, hx, cond_true, idxOf_any])⟩
theorem s_gIndex_bool : C_gIndex_bool (fun x => decide (List.length x.1 ≤ 4294967296)) (fun x => (idxOf (fun d : Bool => x.2.1 == d) x.1 0, ())) := S_gIndex_bool fun x hx => ⟨List.length x.1 + 1, (ev_gIndex_bool _ x.1 x.2.1).trans (by
  have hx : List.length x.1 ≤ 4294967296 := of_decide_eq_true hx
  refine idx_loop (α := Bool) x.1 (fun d => x.2.1 == d) (fun k i => r_gIndex_bool (x.1, x.2.1, ()) k [false, true, false, true] (h0_gIndex_bool x.1 x.2.1 (List.length x.1 : Int) (i : Int))) (fun k => ?_) (fun k i y r hd hi => ?_)
  · rw [rd0_gIndex_bool, lt_false (Nat.le_refl _)]; rfl
  · rw [rd0_gIndex_bool, in_true hi, lt_true hi, w_succ (by omega), rdL_drop hd]; rfl)⟩
theorem s_gContains_bool : C_gContains_bool (fun x => decide (List.length x.1 ≤ 4294967296)) (fun x => (List.any x.1 (fun d : Bool => x.2.1 == d), ())) := S_gContains_bool s_gIndex_bool fun x hx => ⟨0, (ev_gContains_bool 0 x.1 x.2.1).trans (by
  have hx : decide (List.length x.1 ≤ 4294967296) = true := hx
  simp only [cl, hx, cond_true, idxOf_any])⟩
theorem s_imixed : C_imixed (fun x => mixPre x.1 x.2.1) (fun x => (mixes x.1 x.2.1, ())) := S_imixed fun x hx => by
  obtain ⟨m, l, u⟩ := x
  change List Int at l
  obtain ⟨h1, h2⟩ := mixPre_iff.1 hx
  have h2 : List.length l ≤ 4294967296 := h2
  refine ⟨List.length l + 1, (ev_imixed _ m l).trans ?_⟩
  have := list_loop (σ := Int) l (fun k i c => r_imixed (m, l, ()) k [false, true, false, true] (h0_imixed m l c (List.length l : Int) (i : Int))) (fun r i c => (mixes c r, ())) (fun i c => mkR c) (fun k c hc => by
    rw [rd0_imixed, lt_false (Nat.le_refl _)]; rfl) (fun k i y r c hd hi hc => by
    refine .inr ⟨mix c y, mix_r hc, ?_, rfl⟩
    rw [rd0_imixed, in_true hi, lt_true hi, w_succ (by omega), rdL_drop hd, mix_w hc]; rfl) l.length 0 m (by omega) h1
  simpa using this
theorem mixPre_of {m : Int} {l : List Int} (h : mkR m) (hl : l.length ≤ 4) : mixPre m l = true := mixPre_iff.2 ⟨h, by omega⟩
theorem foldI_mores : ∀ (l : List MDec) (i : Nat) (m : Int), foldI (fun _ m (v : MDec) => mix (mix m v.1) v.2) i m l = markMore m l
  | [], i, m => rfl
  | v :: r, i, m => foldI_mores r (i + 1) _
theorem foldI_tsts : ∀ (l : List MTst) (i : Nat) (m : Int), foldI (fun _ m t => markTst m t) i m l = markTsts m l
  | [], i, m => rfl
  | v :: r, i, m => foldI_tsts r (i + 1) _
theorem foldI_devs : ∀ (l : List Bool) (i : Nat) (m : Int), foldI (fun i m d => markDev m i d) i m l = markDevs i m l
  | [], i, m => rfl
  | v :: r, i, m => foldI_devs r (i + 1) _
theorem s_iBatMark : C_iBatMark (fun x => smB x.1) (fun x => (batMark x.1, ())) := S_iBatMark s_imixed fun x hx => by
  obtain ⟨b, u⟩ := x
  change MBat at b
  have hx : smB b = true := hx
  obtain ⟨h1, h2, h3, h4⟩ := smB_iff.1 hx
  refine WithFuel.eq ?_
  show WithFuel (fun k => E_iBatMark (fun x => (mixes x.1 x.2.1, ())) (fun x => mixPre x.1 x.2.1) k (b, ())) _
  have ev := fun k => ev_iBatMark (g_imixed := fun x => (mixes x.1 x.2.1, ())) (p_imixed := fun x => mixPre x.1 x.2.1) k b
  have hp := fun (m : Int) (l : List Int) (h : mkR m) (hl : l.length ≤ 4) => mixPre_of h hl
  simp only [ev, cl, hp _ _ one_r (show List.length [b.1] ≤ 4 from Nat.le_of_ble_eq_true rfl), cond_true]
  refine fold_loop b.2.2.1 (fun _ m t => markTst m t) mkR (fun k i m => r_iBatMark (fun x => (mixes x.1 x.2.1, ())) (fun x => mixPre x.1 x.2.1) (b, ()) k [false, true, false, true, true] (h0_iBatMark b m (List.length b.2.2.1 : Int) (i : Int))) _ (fun i s x hs => markTst_r hs) (mix 1 b.1) (mix_r one_r) (fun hr => ?_) (fun i t r m hd hi hm hk => ?_)
  · rw [foldI_tsts] at hr ⊢
    have hdev := fold_loop (P := fun v => v = (batMark b, ())) b.2.2.2.2.2 (fun i m d => markDev m i d) mkR (fun k i m => r_iBatMark (fun x => (mixes x.1 x.2.1, ())) (fun x => mixPre x.1 x.2.1) (b, ()) k [false, true, false, true, true, true] (h2_iBatMark b m (List.length b.2.2.2.2.2 : Int) (i : Int))) (fun i s x hs => markDev_r hs) (markTsts (mix 1 b.1) b.2.2.1) hr (fun hr => ?_) (fun i d r m hd hi hm hk => ?_)
    · obtain ⟨k, hk⟩ := hdev
      refine ⟨k + 1, ?_⟩
      dsimp only
      rw [rd0_iBatMark, lt_eq, lt_false (Nat.le_refl _)]
      exact hk
    · rw [foldI_devs]
      refine ends_some 1 ?_
      dsimp only
      rw [rd2_iBatMark, lt_false (Nat.le_refl _)]; rfl
    · obtain ⟨k, v, hk, hv⟩ := hk
      refine ⟨k + 1, v, ?_, hv⟩
      dsimp only
      rw [rd2_iBatMark, in_true hi, lt_true hi, w_succ (by omega), rdL_drop hd]
      have g1 := hp m [((i + 1 : Nat) : Int)] hm (Nat.le_of_ble_eq_true rfl)
      have g2 := hp (mix m ((i + 1 : Nat) : Int)) [77] (mix_r hm) (Nat.le_of_ble_eq_true rfl)
      have g2' : mixPre (mixes m [((i + 1 : Nat) : Int)]) [77] = true := g2
      simp only [cl, g1, g2', cond_true]
      cases d
      · exact hk
      · exact hk
  · have hmore := fold_loop (P := fun v => v = (batMark b, ())) t.2.2.2.2 (fun _ m (v : MDec) => mix (mix m v.1) v.2) mkR (fun k j m => r_iBatMark (fun x => (mixes x.1 x.2.1, ())) (fun x => mixPre x.1 x.2.1) (b, ()) k [false, true, true, true, false, false, true, true, false, false, true, false, true, true] (h1_iBatMark b m (List.length b.2.2.1 : Int) (i : Int) t.2.2.2.2 (List.length t.2.2.2.2 : Int) (j : Int))) (fun i s x hs => mix_r (mix_r hs)) (markHead m t) (markHead_r hm) (fun hr => ?_) (fun j v r' m' hd' hj hm' hk' => ?_)
    · obtain ⟨k, v, hk, hv⟩ := hmore
      refine ⟨k + 1, v, ?_, hv⟩
      dsimp only
      rw [rd0_iBatMark, lt_eq, in_true hi, lt_true hi, rdL_drop hd]
      have g1 := hp m [t.2.1, t.2.2.1.1, t.2.2.1.2, t.2.2.2.1] hm (Nat.le_of_ble_eq_true rfl)
      simp only [cl, g1, cond_true]
      exact hk
    · rw [foldI_mores]
      obtain ⟨k, v, hk, hv⟩ := hk
      refine ⟨k + 1, v, ?_, hv⟩
      dsimp only
      rw [rd1_iBatMark, lt_false (Nat.le_refl _), w_succ (i := i) (by omega)]
      exact hk
    · obtain ⟨k, v', hk, hv⟩ := hk'
      refine ⟨k + 1, v', ?_, hv⟩
      have hlt : List.length t.2.2.2.2 ≤ 4294967296 := h2 t (mem_drop hd)
      dsimp only
      rw [rd1_iBatMark, in_true hj, lt_true hj, w_succ (by omega), rdL_drop hd']
      have g1 := hp m' [v.1, v.2] hm' (Nat.le_of_ble_eq_true rfl)
      simp only [cl, g1, cond_true]
      exact hk
theorem s_iBatSigned : C_iBatSigned (fun x => smB x.1) (fun x => (batSigned x.1 x.2.1 x.2.2.1, ())) := S_iBatSigned s_iBatMark fun x hx => ⟨List.length x.1.2.2.2.2.1 + 1, (ev_iBatSigned _ x.1 x.2.1 x.2.2.1).trans (by
  obtain ⟨b, role, but, u⟩ := x
  change MBat at b
  have hx : smB b = true := hx
  have h3 := (smB_iff.1 hx).2.2.1
  simp only [cl, hx, cond_true]
  have := list_loop (σ := Unit) b.2.2.2.2.1 (fun k i _ => r_iBatSigned (fun x => (batMark x.1, ())) (fun x => smB x.1) (b, role, but, ()) k [false, true, false, true, true] (h0_iBatSigned b role but (batMark b) (List.length b.2.2.2.2.1 : Int) (i : Int))) (fun r i _ => (signedBy (batMark b) role but r, ())) (fun _ _ => True) (fun k s _ => by
    rw [rd0_iBatSigned, lt_false (Nat.le_refl _)]; rfl) (fun k i y r s hd hi _ => by
    rw [rd0_iBatSigned, in_true hi, lt_true hi, w_succ (by omega), rdL_drop hd]
    have e : signedBy (batMark b) role but (y :: r) = bif decide (y.2.1 = role) && (decide (y.2.2 = batMark b) && !decide (y.1 = but)) then y.1 else signedBy (batMark b) role but r := rfl
    rw [e]
    cases decide (y.2.1 = role)
    · exact .inr ⟨(), trivial, rfl, rfl⟩
    · cases decide (y.2.2 = batMark b)
      · exact .inr ⟨(), trivial, rfl, rfl⟩
      · cases decide (y.1 = but)
        · exact .inl rfl
        · exact .inr ⟨(), trivial, rfl, rfl⟩) b.2.2.2.2.1.length 0 () (by omega) trivial
  rw [List.drop_zero] at this
  exact this)⟩
theorem s_iBatBatch_gate_c2 : C_iBatBatch_gate_c2 (fun x => smB x.2.2.1) (fun x => (decide (x.1.2.1 = 2) && (decide (x.1.2.2 = x.2.1) && decide (0 < batSigned x.2.2.1 3 x.1.1)), ())) := S_iBatBatch_gate_c2 s_iBatSigned fun x hx => ⟨0, (ev_iBatBatch_gate_c2 0 x.1 x.2.1 x.2.2.1).trans (by
  have hx : smB x.2.2.1 = true := hx
  simp only [cl, hx, cond_true]
  have key : ∀ a b c : Bool, (bif a then (bif b then some (c, ()) else some (false, ())) else some (false, ())) = some (a && (b && c), ()) := by intro a b c; cases a <;> cases b <;> rfl
  exact key _ _ _)⟩
theorem s_gIndexFunc_BatSig__iBatBatch_gate_c2 : C_gIndexFunc_BatSig__iBatBatch_gate_c2 (fun x => decide (List.length x.1 ≤ 4294967296) && smB x.2.1.2.1) (fun x => (idxOf (fun s : MSig => decide (s.2.1 = 2) && (decide (s.2.2 = x.2.1.1) && decide (0 < batSigned x.2.1.2.1 3 s.1))) x.1 0, ())) := S_gIndexFunc_BatSig__iBatBatch_gate_c2 s_iBatBatch_gate_c2 fun x hx => ⟨List.length x.1 + 1, (ev_gIndexFunc_BatSig__iBatBatch_gate_c2 _ x.1 x.2.1).trans (by
  obtain ⟨hx, hb⟩ := Bool.and_eq_true_iff.1 hx
  have hx : List.length x.1 ≤ 4294967296 := of_decide_eq_true hx
  refine idx_loop (α := MSig) x.1 (fun s : MSig => decide (s.2.1 = 2) && (decide (s.2.2 = x.2.1.1) && decide (0 < batSigned x.2.1.2.1 3 s.1))) (fun k i => r_gIndexFunc_BatSig__iBatBatch_gate_c2 (fun x => (decide (x.1.2.1 = 2) && (decide (x.1.2.2 = x.2.1) && decide (0 < batSigned x.2.2.1 3 x.1.1)), ())) (fun x => smB x.2.2.1) (x.1, x.2.1, ()) k [false, true, false, true] (h0_gIndexFunc_BatSig__iBatBatch_gate_c2 x.1 x.2.1 (List.length x.1 : Int) (i : Int))) (fun k => ?_) (fun k i y r hd hi => ?_)
  · rw [rd0_gIndexFunc_BatSig__iBatBatch_gate_c2, lt_false (Nat.le_refl _)]; rfl
  · rw [rd0_gIndexFunc_BatSig__iBatBatch_gate_c2, in_true hi, lt_true hi, w_succ (by omega), rdL_drop hd]
    simp only [cl, hb, cond_true])⟩
theorem s_gContainsFunc_BatSig__iBatBatch_gate_c2 : C_gContainsFunc_BatSig__iBatBatch_gate_c2 (fun x => decide (List.length x.1 ≤ 4294967296) && smB x.2.1.2.1) (fun x => (List.any x.1 (fun s : MSig => decide (s.2.1 = 2) && (decide (s.2.2 = x.2.1.1) && decide (0 < batSigned x.2.1.2.1 3 s.1))), ())) := S_gContainsFunc_BatSig__iBatBatch_gate_c2 s_gIndexFunc_BatSig__iBatBatch_gate_c2 fun x hx => ⟨0, (ev_gContainsFunc_BatSig__iBatBatch_gate_c2 0 x.1 x.2.1).trans (by
  have hx : (decide (List.length x.1 ≤ 4294967296) && smB x.2.1.2.1) = true := hx
  simp only [cl, hx, cond_true, idxOf_any])⟩
theorem s_iBatBatch_gate : C_iBatBatch_gate (fun x => smB x.1) (fun x => (gate x.1, ())) := S_iBatBatch_gate s_gContainsFunc_TstTest__iBatBatch_gate_c1 s_gContains_bool s_iBatMark s_gContainsFunc_BatSig__iBatBatch_gate_c2 fun x hx => ⟨0, (ev_iBatBatch_gate 0 x.1).trans (by
  have hx : smB x.1 = true := hx
  obtain ⟨h1, h2, h3, h4⟩ := smB_iff.1 (show smB _ = true from hx)
  have h1 : decide (List.length x.1.2.2.1 ≤ 4294967296) = true := decide_eq_true h1
  have h3 : decide (List.length x.1.2.2.2.2.1 ≤ 4294967296) = true := decide_eq_true h3
  have h4 : decide (List.length x.1.2.2.2.2.2 ≤ 4294967296) = true := decide_eq_true h4
  simp only [cl, hx, h1, h3, h4, cond_true, Bool.and_self]
  unfold gate shutAll hands
  have e1 : (!(List.any x.1.2.2.1 fun d : MTst => !passed d)) = List.all x.1.2.2.1 passed := not_any_not _ _
  have e2 : (!(List.any x.1.2.2.2.2.2 fun d : Bool => true == d)) = List.all x.1.2.2.2.2.2 (!·) := by
    rw [← not_any_not (fun d : Bool => !d)]
    congr 2
    funext d; cases d <;> rfl
  rw [← e1, ← e2]
  cases (List.any x.1.2.2.1 fun d : MTst => !passed d) <;> cases (List.any x.1.2.2.2.2.2 fun d : Bool => true == d) <;> rfl)⟩
theorem okA_smB {b : MBat} (h1 : inq b.2.2.1.length 1 4 = true) (ht : b.2.2.1.all tstOk = true) (hs : b.2.2.2.2.1.length ≤ 6) (hd : b.2.2.2.2.2.length ≤ 3) : smB b = true := by
  have := inq_iff.1 h1
  refine smB_iff.2 ⟨by omega, fun t hm => ?_, by omega, by omega⟩
  have := tstOk_len (List.all_eq_true.1 ht t hm)
  omega
theorem s_iBatOk : C_iBatOk (fun x => smB x.1) (fun x => (batOk x.1, ())) := S_iBatOk s_iin s_iTstOk s_gContainsFunc_BatSig__iBatOk_c1 s_iBatBatch_gate fun x hx => by
  obtain ⟨b, u⟩ := x
  change MBat at b
  have hx : smB b = true := hx
  obtain ⟨h1, h2, h3, h4⟩ := smB_iff.1 (show smB _ = true from hx)
  have key : ∃ k, r_iBatOk (fun x => (inq x.1 x.2.1 x.2.2.1, ())) (fun x => (tstOk x.1, ())) (fun x => decide (List.length x.1.2.2.2.2 ≤ 4294967296)) (fun x => (List.any x.1 (fun d : MSig => !sigOk d), ())) (fun x => decide (List.length x.1 ≤ 4294967296)) (fun x => (gate x.1, ())) (fun x => smB x.1) (b, ()) k [false, true, false, true, true] (h0_iBatOk b (List.length b.2.2.1 : Int) (0 : Int)) =
      some (riseL tstOk (fun t => t.1.1) none b.2.2.1 && (decide (b.2.2.2.2.1.length ≤ 6) && (b.2.2.2.2.1.all sigOk && (decide (b.2.2.2.2.2.length ≤ 3) && (!freed b.2.2.2.1 || gate b)))), ()) := by
    refine rise_loop tstOk (fun t : MTst => t.1.1) b.2.2.1 _ (fun k i => r_iBatOk (fun x => (inq x.1 x.2.1 x.2.2.1, ())) (fun x => (tstOk x.1, ())) (fun x => decide (List.length x.1.2.2.2.2 ≤ 4294967296)) (fun x => (List.any x.1 (fun d : MSig => !sigOk d), ())) (fun x => decide (List.length x.1 ≤ 4294967296)) (fun x => (gate x.1, ())) (fun x => smB x.1) (b, ()) k [false, true, false, true, true] (h0_iBatOk b (List.length b.2.2.1 : Int) (i : Int))) (fun _ => ⟨1, ?_⟩) (fun k i t r hd hi => ?_)
    · rw [rd0_iBatOk, lt_eq, lt_eq, lt_false (Nat.le_refl _)]
      have h3' : decide (List.length b.2.2.2.2.1 ≤ 4294967296) = true := decide_eq_true h3
      simp only [cl, hx, h3', cond_true, cond_false]
      have e1 : (!(List.any b.2.2.2.2.1 fun d : MSig => !sigOk d)) = List.all b.2.2.2.2.1 sigOk := not_any_not _ _
      rw [← e1]
      have d1 : decide (b.2.2.2.2.1.length ≤ 6) = !decide ((6 : Int) < (List.length b.2.2.2.2.1 : Int)) := by
        by_cases h : b.2.2.2.2.1.length ≤ 6
        · rw [decide_eq_true h, decide_eq_false (by omega)]; rfl
        · rw [decide_eq_false h, decide_eq_true (by omega)]; rfl
      have d2 : decide (b.2.2.2.2.2.length ≤ 3) = !decide ((3 : Int) < (List.length b.2.2.2.2.2 : Int)) := by
        by_cases h : b.2.2.2.2.2.length ≤ 3
        · rw [decide_eq_true h, decide_eq_false (by omega)]; rfl
        · rw [decide_eq_false h, decide_eq_true (by omega)]; rfl
      rw [d1, d2]
      unfold freed
      cases decide ((6 : Int) < (List.length b.2.2.2.2.1 : Int))
      · cases (List.any b.2.2.2.2.1 fun d : MSig => !sigOk d)
        · cases decide ((3 : Int) < (List.length b.2.2.2.2.2 : Int))
          · cases decide (b.2.2.2.1 = 2) <;> cases decide (b.2.2.2.1 = 4) <;> cases gate b <;> rfl
          · rfl
        · rfl
      · rfl
    · rw [rd0_iBatOk, lt_eq, lt_eq, in_true hi, lt_true hi, w_succ (by omega)]
      have hp : decide (List.length (rdL (e := S_TstTest) b.2.2.1 (i : Int)).2.2.2.2 ≤ 4294967296) = true := by
        rw [rdL_drop hd]; exact decide_eq_true (h2 t (mem_drop hd))
      simp only [cl, hp, cond_true]
      exact rise_step tstOk (fun t : MTst => t.1.1) h1 hd hi _ (fun j => rdL (e := S_TstTest) b.2.2.1 j) (fun j hj => rd_asks j hj)
  obtain ⟨k, hk⟩ := key
  refine ⟨k, (ev_iBatOk k b).trans ?_⟩
  unfold batOk batOkA tstsOk
  simp only [hk]
  cases inq b.1 0 5
  · rfl
  · cases inq b.2.1 1 10000
    · rfl
    · cases inq (List.length b.2.2.1 : Int) 1 4
      · rfl
      · cases inq b.2.2.2.1 1 4
        · rfl
        · simp only [Bool.true_and, Bool.and_assoc]; rfl
theorem s_iBatGate : C_iBatGate (fun x => smB x.1) (fun x => (batGate x.1, ())) := S_iBatGate s_iBatOk s_iBatBatch_gate fun x hx => ⟨0, (ev_iBatGate 0 x.1).trans (by
  have hx : smB x.1 = true := hx
  simp only [cl, hx, cond_true]
  unfold batGate
  cases batOk x.1 <;> rfl)⟩

end Go.Proofs.Ytjmohfahchamaaa

set_option linter.unusedVariables false
set_option linter.unusedSimpArgs false
namespace Go.Proofs.Ytjmohfahchamaaa
open Go.Vm
theorem s_lFnBatNew : C_lFnBatNew (lawPre _) (fun _ => (true, ())) := S_lFnBatNew s_sDrawBatNew s_iBatNew s_sBatNew s_lcuBatch s_iBatOk s_sSpcTestsOk s_lcuOk s_iTstNew s_lcuTest s_iBatGate fun x hx => ⟨6, (ev_lFnBatNew 6 x.1).trans (by
  have hb : bytesB x.1 = true := bytes_of (lawPre_iff.1 hx).1.2
  have hd := c_sDrawBatNew (x.1, ()) hb
  refine gets_true (gets_both (fun _ => gets_some rfl) fun _ => gets_cl hb ?_)
  generalize d_sDrawBatNew (x.1, ()) = D at hd ⊢
  obtain ⟨n, l, m, u⟩ := D
  change List MAsk at l
  change Int at n
  change Int at m
  have hl : List.length l ≤ 5 := hd.2
  have hA : smA l = true := decide_eq_true (by omega)
  refine gets_cl hA (gets_cl hA ?_)
  rcases batNew_cases n l m with ⟨h1, h2, h3, h4⟩ | ⟨h4, h5⟩
  · have hsm : smB (batNew n l m) = true := by rw [h4]; exact smB_new (by omega)
    refine gets_cl hsm ?_
    show Gets (bif (bif same (batNew n l m) (batNew n l m) then false else true) then _ else _) _
    rw [same_self]
    refine gets_both (fun h => by cases h) fun _ => ?_
    rw [h4] at hsm ⊢
    refine gets_both (fun h => absurd (show (1 : Int) = 0 from of_decide_eq_true h) (by decide)) fun _ => ?_
    obtain ⟨j, hj⟩ : ∃ j, 6 = j + (List.length l + 1) := ⟨5 - l.length, by omega⟩
    have hlm : List.length (l.map newT) = List.length l := List.length_map _
    rw [hj]
    have ge := gets_loop (σ := Unit) (fun k i _ => r_lFnBatNew d_sDrawBatNew (fun x => bytesB x.1) (fun x => (batNew x.1 x.2.1 x.2.2.1, ())) (fun x => smA x.2.1) (fun x => (batNew x.1 x.2.1 x.2.2.1, ())) (fun x => smA x.2.1) (fun x => (same x.1 x.2.1, ())) (fun x => smB x.1) (fun x => (batOk x.1, ())) (fun x => smB x.1) (fun x => (testsOk x.1, ())) (fun _ => (true, ())) (fun x => ((x.1, 0, (0, 0), 0, []), ())) (fun x => (same x.1 x.2.1, ())) (fun x => decide (List.length x.1.2.2.2.2 ≤ 4294967296)) (fun x => (batGate x.1, ())) (fun x => smB x.1) (x.1, ()) (j + k) [false, true, false, true, true, true, true, true, true] (h0_lFnBatNew x.1 l (i : Int) n m (1 : Int) (l.map newT) [] [])) (fun v => v = (true, ())) (fun _ _ => True) (List.length l) (fun k s hs => ?_) (fun k i s hi hs next => ?_) (List.length l) 0 () (by omega) trivial
    · exact ge
    · show Gets (r_lFnBatNew _ _ _ _ _ _ _ _ _ _ _ _ _ _ _ _ _ (x.1, ()) (j + k + 1) _ _) _
      rw [rd0_lFnBatNew, lt_false (by omega), cond_false]
      refine gets_cl hsm ?_
      show Gets (bif batOk (n, m, l.map newT, 1, [], []) then _ else _) _
      rw [batNew_ok h1 h2 h3, cond_true]
      refine gets_both (fun _ => ?_) fun h => by cases h
      refine gets_both (fun _ => ?_) fun h => absurd (show (List.length (l.map newT) : Int) = (List.length l : Int) by omega) (of_decide_eq_false h)
      refine gets_both (fun _ => ?_) fun h => by cases h
      refine gets_cl hsm ?_
      show Gets (some ((bif batGate (n, m, l.map newT, 1, [], []) then false else true), ())) _
      rw [batNew_gate h2]
      exact gets_some rfl
    · show Gets (r_lFnBatNew _ _ _ _ _ _ _ _ _ _ _ _ _ _ _ _ _ (x.1, ()) (j + k + 1) _ _) _
      have hdr : l.drop i = l[i] :: l.drop (i + 1) := List.drop_eq_getElem_cons hi
      have hdm : (l.map newT).drop i = newT l[i] :: (l.drop (i + 1)).map newT := by rw [← List.map_drop, hdr]; rfl
      have hi' : i < List.length (l.map newT) := by omega
      rw [rd0_lFnBatNew, in_true hi, in_true hi', lt_true hi', w_succ (by omega), rdL_drop hdm, rdL_drop hdr, cond_true]
      refine gets_need rfl (gets_need rfl (gets_cl rfl ?_))
      show Gets (bif (bif same (newT l[i]) (newT l[i]) then false else true) then _ else _) _
      rw [same_self]
      exact next () trivial
  · have hsm : smB (batNew n l m) = true := by rw [h4]; rfl
    refine gets_cl hsm ?_
    show Gets (bif (bif same (batNew n l m) (batNew n l m) then false else true) then _ else _) _
    rw [same_self]
    refine gets_both (fun h => by cases h) fun _ => ?_
    rw [h4] at hsm ⊢
    refine gets_both (fun _ => gets_cl hsm ?_) fun h => absurd (show (0 : Int) = 0 from rfl) (of_decide_eq_false h)
    show Gets (bif (bif batOk batNone then false else true) then _ else _) _
    rw [batOk_none]
    refine gets_both (fun _ => ?_) fun h => by cases h
    refine gets_both (fun _ => gets_some rfl) fun g1 => gets_both (fun _ => gets_some rfl) fun g2 => gets_both (fun _ => gets_some rfl) fun g3 => gets_both (fun _ => gets_some rfl) fun g4 => gets_both (fun _ => gets_some rfl) fun g5 => ?_
    have g1 : ¬ n < 0 := of_decide_eq_false g1
    have g2 : ¬ 6 ≤ n := of_decide_eq_false g2
    have g3 : (bif testsOk l then false else true) = false := g3
    have g4 : ¬ m < 1 := of_decide_eq_false g4
    have g5 : ¬ 10000 < m := of_decide_eq_false g5
    have g3 : testsOk l = true := by cases h : testsOk l <;> rw [h] at g3 <;> cases g3 <;> rfl
    rw [inq_iff.2 ⟨(by omega : (0 : Int) ≤ n), (by omega : n ≤ 5)⟩, g3, inq_iff.2 ⟨(by omega : (1 : Int) ≤ m), (by omega : m ≤ 10000)⟩] at h5
    cases h5)⟩

end Go.Proofs.Ytjmohfahchamaaa
