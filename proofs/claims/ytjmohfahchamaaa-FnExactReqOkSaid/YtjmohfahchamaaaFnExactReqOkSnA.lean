/- The functions that FnExactReqOk reaches: what each of them answers, part 1. Conditions stand in each contract. -/
import Derived.Test.YtjmohfahchamaaaFnExactReqOkEq0
import Derived.Test.YtjmohfahchamaaaMoA
set_option linter.unusedVariables false
set_option linter.unusedSimpArgs false
namespace Go.Proofs.Ytjmohfahchamaaa
open Go.Vm

theorem s_iin : C_iin (fun _ => true) (fun x => (inq x.1 x.2.1 x.2.2.1, ())) := S_iin fun x _ => ⟨0, (ev_iin 0 x.1 x.2.1 x.2.2.1).trans (by
  simp only [bif_some, bif_pair, bif_and]; rfl)⟩
theorem s_sl1In : C_sl1In (fun _ => true) (fun x => (inq x.1 x.2.1 x.2.2.1, ())) := S_sl1In fun x _ => ⟨0, (ev_sl1In 0 x.1 x.2.1 x.2.2.1).trans (by
  simp only [bif_some, bif_pair, bif_and]; rfl)⟩

/-- Ten, so many times. -/
theorem pw_step {i : Nat} (h : i < 18) : w64 ((10 : Int) ^ i * (10 : Int)) = 10 ^ (i + 1) := by
  have : (10 : Int) ^ (i + 1) ≤ 10 ^ 18 := by exact_mod_cast Nat.pow_le_pow_right (by decide) (by omega)
  have h2 : (0 : Int) < 10 ^ (i + 1) := Int.pow_pos (by decide)
  rw [← Int.pow_succ, w64_eq (by omega) (by omega)]

theorem p_ipower (n : Int) (hn : n ≤ 18) : r_ipower (n, ()) (n.toNat + 1) [false, true, false, true, true] (h0_ipower n (1 : Int) (0 : Int)) = some (pw n, ()) := by
  by_cases h0 : n ≤ 0
  · have : n.toNat = 0 := by omega
    rw [this, rd0_ipower]
    have : decide ((0 : Int) < n) = false := decide_eq_false (by omega)
    rw [this]
    show some ((1 : Int), ()) = _
    unfold pw
    rw [show n.toNat = 0 by omega]; rfl
  · have hc : (n.toNat : Int) = n := by omega
    refine count_loop (σ := Unit) n.toNat (fun k i _ => r_ipower (n, ()) k [false, true, false, true, true] (h0_ipower n ((10 : Int) ^ i) (i : Int))) (fun _ _ => (pw n, ())) (fun _ _ => True) (fun k s _ => ?_) (fun k i s hi _ => ?_) n.toNat 0 () (by omega) trivial
    · rw [rd0_ipower, show decide ((n.toNat : Int) < n) = false from decide_eq_false (by omega)]
      rfl
    · refine .inr ⟨(), trivial, ?_, rfl⟩
      rw [rd0_ipower, show decide ((i : Int) < n) = true from decide_eq_true (by omega), pw_step (by omega), w_succ (by omega)]
      rfl
theorem s_ipower : C_ipower (fun x => decide (x.1 ≤ 18)) (fun x => (pw x.1, ())) := S_ipower fun x hx => ⟨_, (ev_ipower _ x.1).trans (p_ipower x.1 (of_decide_eq_true hx))⟩
theorem p_sl1Ten (n : Int) (hn : n ≤ 18) : r_sl1Ten (n, ()) (n.toNat + 1) [false, true, false, true, true] (h0_sl1Ten n (1 : Int) (0 : Int)) = some (pw n, ()) := by
  by_cases h0 : n ≤ 0
  · have : n.toNat = 0 := by omega
    rw [this, rd0_sl1Ten]
    have : decide ((0 : Int) < n) = false := decide_eq_false (by omega)
    rw [this]
    show some ((1 : Int), ()) = _
    unfold pw
    rw [show n.toNat = 0 by omega]; rfl
  · have hc : (n.toNat : Int) = n := by omega
    refine count_loop (σ := Unit) n.toNat (fun k i _ => r_sl1Ten (n, ()) k [false, true, false, true, true] (h0_sl1Ten n ((10 : Int) ^ i) (i : Int))) (fun _ _ => (pw n, ())) (fun _ _ => True) (fun k s _ => ?_) (fun k i s hi _ => ?_) n.toNat 0 () (by omega) trivial
    · rw [rd0_sl1Ten, show decide ((n.toNat : Int) < n) = false from decide_eq_false (by omega)]
      rfl
    · refine .inr ⟨(), trivial, ?_, rfl⟩
      rw [rd0_sl1Ten, show decide ((i : Int) < n) = true from decide_eq_true (by omega), pw_step (by omega), w_succ (by omega)]
      rfl
theorem s_sl1Ten : C_sl1Ten (fun x => decide (x.1 ≤ 18)) (fun x => (pw x.1, ())) := S_sl1Ten fun x hx => ⟨_, (ev_sl1Ten _ x.1).trans (p_sl1Ten x.1 (of_decide_eq_true hx))⟩
theorem near_arith {n d : Int} (h : nrPre n d = true) (h0 : 0 ≤ n) : w64 (Int.tdiv (w64 (w64 ((2 : Int) * n) + d)) (w64 ((2 : Int) * d))) = near n d ∧ decide (w64 ((2 : Int) * d) = (0 : Int)) = false ∧ 0 ≤ near n d ∧ near n d ≤ 2000000000000000 := by
  obtain ⟨⟨h1, h2⟩, h3, h4⟩ := nrPre_iff.1 h
  have e1 : w64 ((2 : Int) * d) = 2 * d := w64_eq (by omega) (by omega)
  have e2 : w64 ((2 : Int) * n) = 2 * n := w64_eq (by omega) (by omega)
  have e3 : w64 (2 * n + d) = 2 * n + d := w64_eq (by omega) (by omega)
  have e4 : Int.tdiv (2 * n + d) (2 * d) = (2 * n + d) / (2 * d) := Int.tdiv_eq_ediv_of_nonneg (by omega)
  have a1 : 0 ≤ (2 * n + d) / (2 * d) := Int.ediv_nonneg (by omega) (by omega)
  have a2 : (2 * n + d) / (2 * d) ≤ n + d := by
    refine Int.ediv_le_of_le_mul (by omega) ?_
    have : n + d ≤ (n + d) * d := by
      have := Int.mul_le_mul_of_nonneg_left (show (1 : Int) ≤ d by omega) (show 0 ≤ n + d by omega)
      omega
    have e : (n + d) * (2 * d) = 2 * ((n + d) * d) := by rw [Int.mul_left_comm]
    omega
  have e5 : near n d = (2 * n + d) / (2 * d) := by unfold near; rw [if_neg (by omega)]
  rw [e1, e2, e3, e4, e5]
  exact ⟨w64_eq (by omega) (by omega), decide_eq_false (by omega), a1, by omega⟩

theorem near_neg {n d : Int} (h : n < 0) : near n d = -(near (-n) d) := by
  unfold near; rw [if_pos h, if_neg (by omega)]
theorem p_inearest_up {n d : Int} {g p} (h : nrPre n d = true) (h0 : 0 ≤ n) : E_inearest g p 0 (n, d, ()) = some (near n d, ()) := (ev_inearest 0 n d).trans (by
  obtain ⟨h1, h2, _⟩ := near_arith h h0
  rw [show decide (n < (0 : Int)) = false from decide_eq_false (by omega), h2, h1]
  rfl)
theorem s_inearest_up : C_inearest (fun x => nrPre x.1 x.2.1 && decide (0 ≤ x.1)) (fun x => (near x.1 x.2.1, ())) := S_inearest (S0_inearest (fn := fun _ => (0, ()))) fun x hx => ⟨0, p_inearest_up (Bool.and_eq_true_iff.1 hx).1 (of_decide_eq_true (Bool.and_eq_true_iff.1 hx).2)⟩
theorem p_inearest {n d : Int} (hx : nrPre n d = true) : E_inearest (fun x => (near x.1 x.2.1, ())) (fun x => nrPre x.1 x.2.1 && decide (0 ≤ x.1)) 0 (n, d, ()) = some (near n d, ()) := by
  obtain ⟨⟨h1, h2⟩, h3, h4⟩ := nrPre_iff.1 hx
  by_cases h0 : n < 0
  · refine (ev_inearest 0 n d).trans ?_
    have e : w64 ((0 : Int) - n) = -n := by rw [w64_eq (by omega) (by omega)]; omega
    have hp : nrPre (-n) d = true := nrPre_iff.2 ⟨⟨by omega, by omega⟩, h3, h4⟩
    obtain ⟨_, _, g1, g2⟩ := near_arith hp (by omega)
    rw [show decide (n < (0 : Int)) = true from decide_eq_true h0, e]
    simp only [cond_true, hp, show decide (0 ≤ -n) = true from decide_eq_true (by omega), Bool.and_self]
    rw [near_neg h0, show w64 ((0 : Int) - near (-n) d) = -near (-n) d from by rw [w64_eq (by omega) (by omega)]; omega]
  · exact p_inearest_up hx (by omega)
theorem s_inearest : C_inearest (fun x => nrPre x.1 x.2.1) (fun x => (near x.1 x.2.1, ())) := S_inearest s_inearest_up fun x hx => ⟨0, p_inearest hx⟩
theorem p_sl1Near_up {n d : Int} {g p} (h : nrPre n d = true) (h0 : 0 ≤ n) : E_sl1Near g p 0 (n, d, ()) = some (near n d, ()) := (ev_sl1Near 0 n d).trans (by
  obtain ⟨h1, h2, _⟩ := near_arith h h0
  rw [show decide (n < (0 : Int)) = false from decide_eq_false (by omega), h2, h1]
  rfl)
theorem s_sl1Near_up : C_sl1Near (fun x => nrPre x.1 x.2.1 && decide (0 ≤ x.1)) (fun x => (near x.1 x.2.1, ())) := S_sl1Near (S0_sl1Near (fn := fun _ => (0, ()))) fun x hx => ⟨0, p_sl1Near_up (Bool.and_eq_true_iff.1 hx).1 (of_decide_eq_true (Bool.and_eq_true_iff.1 hx).2)⟩
theorem p_sl1Near {n d : Int} (hx : nrPre n d = true) : E_sl1Near (fun x => (near x.1 x.2.1, ())) (fun x => nrPre x.1 x.2.1 && decide (0 ≤ x.1)) 0 (n, d, ()) = some (near n d, ()) := by
  obtain ⟨⟨h1, h2⟩, h3, h4⟩ := nrPre_iff.1 hx
  by_cases h0 : n < 0
  · refine (ev_sl1Near 0 n d).trans ?_
    have e : w64 ((0 : Int) - n) = -n := by rw [w64_eq (by omega) (by omega)]; omega
    have hp : nrPre (-n) d = true := nrPre_iff.2 ⟨⟨by omega, by omega⟩, h3, h4⟩
    obtain ⟨_, _, g1, g2⟩ := near_arith hp (by omega)
    rw [show decide (n < (0 : Int)) = true from decide_eq_true h0, e]
    simp only [cond_true, hp, show decide (0 ≤ -n) = true from decide_eq_true (by omega), Bool.and_self]
    rw [near_neg h0, show w64 ((0 : Int) - near (-n) d) = -near (-n) d from by rw [w64_eq (by omega) (by omega)]; omega]
  · exact p_sl1Near_up hx (by omega)
theorem s_sl1Near : C_sl1Near (fun x => nrPre x.1 x.2.1) (fun x => (near x.1 x.2.1, ())) := S_sl1Near s_sl1Near_up fun x hx => ⟨0, p_sl1Near hx⟩

end Go.Proofs.Ytjmohfahchamaaa

set_option linter.unusedVariables false
set_option linter.unusedSimpArgs false
namespace Go.Proofs.Ytjmohfahchamaaa
open Go.Vm

theorem s_iDecOk : C_iDecOk (fun _ => true) (fun x => (decOk x.1, ())) := S_iDecOk s_iin s_ipower fun x _ => ⟨0, (ev_iDecOk 0 x.1).trans (p_decOk x.1)⟩
theorem s_sDecOk : C_sDecOk (fun _ => true) (fun x => (decOk x.1, ())) := S_sDecOk s_sl1In s_sl1Ten fun x _ => ⟨0, (ev_sDecOk 0 x.1).trans (p_decOk x.1)⟩
theorem s_iDecAt : C_iDecAt (fun _ => true) (fun x => (decAt x.1 x.2.1, ())) := S_iDecAt s_iDecOk s_iin s_ipower s_inearest fun x _ => ⟨0, (ev_iDecAt 0 x.1 x.2.1).trans (p_decAt x.1 x.2.1 _ fun h1 h2 => p_atR h1 h2)⟩
theorem s_sl1At : C_sl1At (fun x => decOk x.1 && inq x.2.1 0 3) (fun x => (atR x.1 x.2.1, ())) := S_sl1At s_sl1Ten s_sl1Near fun x hx => ⟨0, (ev_sl1At 0 x.1 x.2.1).trans (p_atR (Bool.and_eq_true_iff.1 hx).1 (Bool.and_eq_true_iff.1 hx).2)⟩
theorem s_gisNaN_int : C_gisNaN_int (fun _ => true) (fun _ => (false, ())) := S_gisNaN_int fun x _ => ⟨0, (ev_gisNaN_int 0 x.1).trans (by
  rw [decide_eq_true rfl]; rfl)⟩
theorem s_gCompare_int : C_gCompare_int (fun _ => true) (fun x => (cmpI x.1 x.2.1, ())) := S_gCompare_int s_gisNaN_int fun x _ => ⟨0, (ev_gCompare_int 0 x.1 x.2.1).trans (p_cmpI x.1 x.2.1)⟩
theorem s_iDecCmp : C_iDecCmp (fun _ => true) (fun x => (decCmp x.1 x.2.1, ())) := S_iDecCmp s_iDecOk s_iDecAt s_gCompare_int fun x _ => ⟨0, (ev_iDecCmp 0 x.1 x.2.1).trans (p_decCmp x.1 x.2.1 _ fun h1 h2 => by
  unfold decAt
  simp only [h1, h2, in03, Bool.and_self, cond_true])⟩
theorem s_sDecCmp : C_sDecCmp (fun _ => true) (fun x => (decCmp x.1 x.2.1, ())) := S_sDecCmp s_sDecOk s_sl1At fun x _ => ⟨0, (ev_sDecCmp 0 x.1 x.2.1).trans (p_decCmp x.1 x.2.1 _ fun h1 h2 => by
  simp only [h1, h2, in03, Bool.and_self, cond_true]
  exact p_cmpI _ _)⟩
theorem s_iisTest : C_iisTest (fun _ => true) (fun x => (inq x.1 1 4, ())) := S_iisTest s_iin fun x _ => ⟨0, ev_iisTest 0 x.1⟩
theorem s_iSpcTest_ok : C_iSpcTest_ok (fun _ => true) (fun x => (askOk x.1, ())) := S_iSpcTest_ok s_iisTest s_iDecOk s_iDecCmp s_iin fun x _ => ⟨0, (ev_iSpcTest_ok 0 x.1).trans (by
  simp only [bif_some, bif_pair, bif_and]; rfl)⟩
theorem s_sl3Test : C_sl3Test (fun _ => true) (fun x => (askOk x.1, ())) := S_sl3Test s_sl1In s_sDecOk s_sDecCmp fun x _ => ⟨0, (ev_sl3Test 0 x.1).trans (by
  simp only [bif_some, bif_pair, bif_and]; rfl)⟩
end Go.Proofs.Ytjmohfahchamaaa

set_option linter.unusedVariables false
set_option linter.unusedSimpArgs false
namespace Go.Proofs.Ytjmohfahchamaaa
open Go.Vm

theorem s_ltoDecDec : C_ltoDecDec (fun _ => true) (fun x => (x.1, ())) := S_ltoDecDec fun x _ => ⟨0, ev_ltoDecDec 0 x.1⟩
theorem s_ltoSpcTest : C_ltoSpcTest (fun _ => true) (fun x => (x.1, ())) := S_ltoSpcTest s_ltoDecDec fun x _ => ⟨0, ev_ltoSpcTest 0 x.1⟩

theorem p_iSpcTestsOk (xs : List MAsk) (hx : xs.length ≤ 4294967296) : r_iSpcTestsOk (fun x => (askOk x.1, ())) (fun x => (inq x.1 x.2.1 x.2.2.1, ())) (xs, ()) (xs.length + 1) [false, true, false, true] (h0_iSpcTestsOk xs (xs.length : Int) ((0 : Nat) : Int)) = some (asksOk none xs && inq xs.length 1 4, ()) := by
  refine asks_loop xs hx (inq xs.length 1 4) (fun k i => r_iSpcTestsOk (fun x => (askOk x.1, ())) (fun x => (inq x.1 x.2.1 x.2.2.1, ())) (xs, ()) k [false, true, false, true] (h0_iSpcTestsOk xs (xs.length : Int) (i : Int))) (fun k => ?_) (fun k i x r hd hi => ?_)
  · rw [rd0_iSpcTestsOk, lt_false (Nat.le_refl _)]; rfl
  · rw [rd0_iSpcTestsOk, in_true hi, lt_true hi, w_succ (by omega)]
    exact asks_step hx hd hi _ (fun j => rdL (e := S_SpcTest) xs j) (fun j hj => rd_asks j hj)
theorem s_iSpcTestsOk : C_iSpcTestsOk (fun x => decide (List.length x.1 ≤ 4294967296)) (fun x => (testsOk x.1, ())) := S_iSpcTestsOk s_iSpcTest_ok s_iin fun x hx => ⟨_, (ev_iSpcTestsOk _ x.1).trans ((p_iSpcTestsOk x.1 (of_decide_eq_true hx)).trans (by
  unfold testsOk; rw [Bool.and_comm]))⟩

theorem p_sSpcTestsOk (xs : List MAsk) (hx : xs.length ≤ 4294967296) : r_sSpcTestsOk (fun x => (inq x.1 x.2.1 x.2.2.1, ())) (fun x => (askOk x.1, ())) (xs, ()) (xs.length + 1) [false, true, false, true, true] (h0_sSpcTestsOk xs ((0 : Nat) : Int)) = some (asksOk none xs && true, ()) := by
  refine asks_loop xs hx true (fun k i => r_sSpcTestsOk (fun x => (inq x.1 x.2.1 x.2.2.1, ())) (fun x => (askOk x.1, ())) (xs, ()) k [false, true, false, true, true] (h0_sSpcTestsOk xs (i : Int))) (fun k => ?_) (fun k i x r hd hi => ?_)
  · rw [rd0_sSpcTestsOk, lt_false (Nat.le_refl _)]; rfl
  · rw [rd0_sSpcTestsOk, in_true hi, lt_true hi, w_succ (by omega)]
    exact asks_step hx hd hi _ (fun j => rdL (e := S_SpcTest) xs j) (fun j hj => rd_asks j hj)
theorem s_sSpcTestsOk : C_sSpcTestsOk (fun _ => true) (fun x => (testsOk x.1, ())) := S_sSpcTestsOk s_sl1In s_sl3Test fun x _ => ⟨List.length x.1 + 1, (ev_sSpcTestsOk _ x.1).trans (by
  unfold testsOk
  cases h : inq (List.length x.1) 1 4
  · rfl
  · have := inq_iff.1 h
    refine (p_sSpcTestsOk x.1 (by omega)).trans ?_
    rw [Bool.and_true]; rfl)⟩

theorem s_lszSpcTestS : C_lszSpcTestS (fun x => okLen (List.length x.1) && inq x.2.1 0 1048576) (fun x => (if x.2.1 < (List.length x.1 : Int) then -1 else x.2.1 - (List.length x.1 : Int), ())) := S_lszSpcTestS fun x hx => ⟨0, (ev_lszSpcTestS 0 x.1 x.2.1).trans (by
  have key : ∀ (n : Nat) (l : Int), n ≤ 9223372036854775807 → 0 ≤ l → l ≤ 1048576 → (bif (decide ((w64 (l - (n : Int))) < (0 : Int))) then (some ((-1 : Int), ())) else (some ((w64 (l - (n : Int))), ()))) = some (if l < (n : Int) then -1 else l - (n : Int), ()) := fun n l h1 h2 h3 => by
    rw [w64_eq (by omega) (by omega)]
    by_cases h : l < n
    · rw [if_pos h, decide_eq_true (by omega)]; rfl
    · rw [if_neg h, decide_eq_false (by omega)]; rfl
  have h := Bool.and_eq_true_iff.1 hx
  have h2 := inq_iff.1 h.2
  exact key _ _ (okLen_iff.1 h.1) h2.1 h2.2)⟩

theorem p_make {n : Nat} {α : Type} {X : Option α} (h : n ≤ 4294967296) : (bif (bif (bif (decide ((0 : Int) ≤ (n : Int))) then (decide ((n : Int) ≤ (BIG : Int))) else false) then (decide ((n : Int) = (n : Int))) else false) then X else none) = X := by
  rw [decide_eq_true (show (0 : Int) ≤ (n : Int) by omega), decide_eq_true (show (n : Int) ≤ (BIG : Int) by show (n : Int) ≤ ((4294967296 : Nat) : Int); omega), decide_eq_true rfl]; rfl

theorem s_ltoSpcTestS : C_ltoSpcTestS (fun x => decide (List.length x.1 ≤ 4294967296)) (fun x => (x.1, ())) := S_ltoSpcTestS s_ltoSpcTest fun x hx => ⟨List.length x.1 + 1, (ev_ltoSpcTestS _ x.1).trans (by
  have hx : List.length x.1 ≤ 4294967296 := of_decide_eq_true hx
  rw [p_make hx]
  refine (map_loop (α := MAsk) x.1 (fun y => y) (fun k i out => r_ltoSpcTestS (fun x => (x.1, ())) (x.1, ()) k [false, true, false, true, true] (h0_ltoSpcTestS x.1 (i : Int) out)) (fun k out ho => ?_) (fun k i y r out hd hi ho => ?_) _ ?_).trans ?_
  · rw [rd0_ltoSpcTestS, lt_false (Nat.le_refl _)]; rfl
  · rw [rd0_ltoSpcTestS, in_true hi, in_true (ho.symm ▸ hi), lt_true hi, w_succ (by omega), Int.toNat_natCast, rdL_drop hd]; rfl
  · rw [List.length_replicate]; exact Int.toNat_natCast _
  · rw [List.map_id'])⟩

theorem s_leqDecDec : C_leqDecDec (fun _ => true) (fun x => (same x.1 x.2.1, ())) := S_leqDecDec fun x _ => ⟨0, (ev_leqDecDec 0 x.1 x.2.1).trans (by
  simp only [bif_not, bif_neg, bif_some, bif_pair, bif_and, same_int, Bool.and_true]
  exact congrArg (fun b => some (b, ())) (same_pair _ _ _ _))⟩
theorem s_leqSpcTest : C_leqSpcTest (fun _ => true) (fun x => (same x.1 x.2.1, ())) := S_leqSpcTest s_leqDecDec fun x _ => ⟨0, (ev_leqSpcTest 0 x.1 x.2.1).trans (by
  simp only [bif_not, bif_neg, bif_some, bif_pair, bif_and, same_int, Bool.and_true]
  refine congrArg (fun b => some (b, ())) ?_
  rw [same_pair, same_pair, same_pair])⟩

/-- Two rows of one length, and the loop over them. -/
theorem p_eqS {α : Type} {xs ys : List α} {X : Option (Bool × Unit)} (h : xs.length = ys.length → X = some (same xs ys, ())) : (bif (bif (decide ((xs.length : Int) = (ys.length : Int))) then false else true) then (some (false, ())) else X) = some (same xs ys, ()) := by
  by_cases hl : xs.length = ys.length
  · rw [decide_eq_true (by omega)]; exact h hl
  · rw [decide_eq_false (by omega), same_false fun e => hl (by rw [e])]; rfl

theorem s_leqSpcTestS : C_leqSpcTestS (fun x => decide (List.length x.1 ≤ 4294967296)) (fun x => (same x.1 x.2.1, ())) := S_leqSpcTestS s_leqSpcTest fun x hx => ⟨List.length x.1 + 1, (ev_leqSpcTestS _ x.1 x.2.1).trans (p_eqS fun hl => by
  have hx : List.length x.1 ≤ 4294967296 := of_decide_eq_true hx
  refine eq_loop (α := MAsk) x.1 x.2.1 hl (fun k i => r_leqSpcTestS (fun x => (same x.1 x.2.1, ())) (x.1, x.2.1, ()) k [false, true, false, true, true] (h0_leqSpcTestS x.1 x.2.1 (i : Int))) (fun k => ?_) (fun k i y z r r' hd hd' hi hi' => ?_)
  · rw [rd0_leqSpcTestS, lt_false (Nat.le_refl _)]; rfl
  · rw [rd0_leqSpcTestS, in_true hi, in_true hi', lt_true hi, w_succ (by omega), rdL_drop hd, rdL_drop hd', bif_not, bif_neg]; rfl)⟩

end Go.Proofs.Ytjmohfahchamaaa

set_option linter.unusedVariables false
set_option linter.unusedSimpArgs false
namespace Go.Proofs.Ytjmohfahchamaaa
open Go.Vm

/-- Lists that came in. -/
def wfSpcs (l : List MSpc) : Bool := okLen l.length && l.all (fun s => okLen s.1.length)
end Go.Proofs.Ytjmohfahchamaaa

set_option linter.unusedVariables false
set_option linter.unusedSimpArgs false
namespace Go.Proofs.Ytjmohfahchamaaa
open Go.Vm

theorem beq_dec (a b : MDec) : Sh.beq S_DecDec a b = same a b := by
  show (decide (a.1 = b.1) && decide (a.2 = b.2)) = _
  rw [same_int, same_int, same_pair]

end Go.Proofs.Ytjmohfahchamaaa

set_option linter.unusedVariables false
set_option linter.unusedSimpArgs false
namespace Go.Proofs.Ytjmohfahchamaaa
open Go.Vm

theorem rdLmore {l : List MDec} (h : l ≠ []) : rdL (e := S_DecDec) l (0 : Int) = l.getD 0 (0, 0) := rfl
theorem head_ok {l : List MDec} (h : l ≠ []) (ho : l.all decOk = true) : decOk (l.getD 0 (0, 0)) = true := by
  cases l with
  | nil => exact absurd rfl h
  | cons d r => exact List.all_eq_true.1 ho d List.mem_cons_self
theorem tlPre_iff {t : MTst} : tlPre t = true ↔ tsPre t = true ∧ (t.2.2.2.1 = 1 → t.2.2.2.2 ≠ []) := by
  unfold tlPre
  simp only [Bool.and_eq_true, Bool.or_eq_true, Bool.not_eq_true', decide_eq_false_iff_not, List.isEmpty_eq_false_iff]
  exact ⟨fun h => ⟨h.1, fun e => h.2.resolve_left (fun hn => hn e)⟩, fun h => ⟨h.1, Classical.or_iff_not_imp_left.2 fun hn => h.2 (Classical.not_not.1 hn)⟩⟩
theorem in0_ne {l : List MDec} (h : l ≠ []) : (bif (decide ((0 : Int) ≤ (0 : Int))) then (decide ((0 : Int) < (l.length : Int))) else false) = true := by
  have : 0 < l.length := List.length_pos_iff.2 h
  exact in_true (i := 0) this

theorem p_tell {t : MTst} (h : tlPre t = true) (A B C : Option (MDec × Unit)) (hA : t.2.2.2.2 ≠ [] → A = some (decAt (t.2.2.2.2.getD 0 (0, 0)) t.1.2.2.2, ())) (hB : B = some (decMean (t.2.2.1 :: t.2.2.2.2) t.1.2.2.2, ())) (hC : C = some (decAt t.2.2.1 t.1.2.2.2, ())) :
    (bif (decide (t.2.2.2.1 = (1 : Int))) then (bif (bif (decide ((0 : Int) ≤ (0 : Int))) then (decide ((0 : Int) < (t.2.2.2.2.length : Int))) else false) then A else none) else (bif (decide (t.2.2.2.1 = (2 : Int))) then (bif (fitL [t.2.2.1] t.2.2.2.2) then B else none) else C)) = some (tell t, ()) := by
  obtain ⟨h1, h2⟩ := tlPre_iff.1 h
  obtain ⟨_, _, _, h3⟩ := tsPre_iff.1 h1
  unfold tell
  by_cases c1 : t.2.2.2.1 = 1
  · rw [decide_eq_true c1, if_pos c1, in0_ne (h2 c1), hA (h2 c1)]; rfl
  · rw [decide_eq_false c1, if_neg c1]
    by_cases c2 : t.2.2.2.1 = 2
    · rw [decide_eq_true c2, if_pos c2, fitL_eq (by simp; omega), hB]; rfl
    · rw [decide_eq_false c2, if_neg c2, hC]; rfl

theorem tl_of {t : MTst} (h : tsPre t = true) (hn : ¬ (t.2.2.2.2.length : Int) < need t.2.2.2.1) : tlPre t = true := by
  refine tlPre_iff.2 ⟨h, fun e hne => ?_⟩
  rw [hne, e] at hn
  exact hn (by decide)

theorem p_state {t : MTst} (A : Option (Int × Unit)) (h3 : t.2.2.2.1 ≠ 3) (hA : ¬ (t.2.2.2.2.length : Int) < need t.2.2.2.1 → A = some (if passes t = true then 3 else 4, ())) (h0 : t.2.2.2.1 ≠ 0) :
    (bif (decide ((t.2.2.2.2.length : Int) < need t.2.2.2.1)) then (some ((2 : Int), ())) else A) = some (stateOf t, ()) := by
  unfold stateOf
  rw [if_neg h0, if_neg h3]
  by_cases hn : (t.2.2.2.2.length : Int) < need t.2.2.2.1
  · rw [decide_eq_true hn, if_pos hn]; rfl
  · rw [decide_eq_false hn, if_neg hn, hA hn]; rfl

theorem p_okB (t : MTst) (A : Option (Bool × Unit)) (hA : t.2.1 ≠ 0 → A = some (decide (t.2.1 = stateOf t) && (decide (t.2.2.2.1 = 0) || !spcIn t.1 t.2.2.1), ())) :
    (bif (decide (t.2.1 = (0 : Int))) then (bif (Sh.beq S_DecDec t.2.2.1 ((0 : Int), (0 : Int))) then (some ((decide (t.2.2.2.1 = (0 : Int))), ())) else (some (false, ()))) else A) = some (tstOkB t, ()) := by
  rw [beq_dec]
  unfold tstOkB
  by_cases h : t.2.1 = 0
  · rw [decide_eq_true h]
    cases same t.2.2.1 ((0 : Int), (0 : Int)) <;> rfl
  · rw [decide_eq_false h, hA h]; rfl
theorem p_okB2 (t : MTst) : (bif (decide (t.2.1 = stateOf t)) then (bif (decide (t.2.2.2.1 = (0 : Int))) then (some (true, ())) else (some ((bif spcIn t.1 t.2.2.1 then false else true), ()))) else (some (false, ()))) = some (decide (t.2.1 = stateOf t) && (decide (t.2.2.2.1 = 0) || !spcIn t.1 t.2.2.1), ()) := by
  cases decide (t.2.1 = stateOf t) <;> cases decide (t.2.2.2.1 = 0) <;> cases spcIn t.1 t.2.2.1 <;> rfl
theorem p_tstTell (t : MTst) (A : Option (MDec × Bool × Unit)) (hA : tstOk t = true → (t.2.1 = 3 ∨ t.2.1 = 4) → A = some (tell t, true, ())) :
    (bif (bif tstOk t then false else true) then (some (((0 : Int), (0 : Int)), (false, ()))) else (bif (bif (decide (t.2.1 = (3 : Int))) then false else true) then (bif (bif (decide (t.2.1 = (4 : Int))) then false else true) then (some (((0 : Int), (0 : Int)), (false, ()))) else A) else A)) =
    some (bif tstOk t && (decide (t.2.1 = 3) || decide (t.2.1 = 4)) then (tell t, true, ()) else ((0, 0), false, ())) := by
  cases h : tstOk t
  · rfl
  · by_cases h3 : t.2.1 = 3
    · rw [decide_eq_true h3, hA h (.inl h3)]; rfl
    · by_cases h4 : t.2.1 = 4
      · rw [decide_eq_true h4, decide_eq_false h3, hA h (.inr h4)]; rfl
      · rw [decide_eq_false h4, decide_eq_false h3]; rfl
/-- A test that is settled can be told. -/
theorem settled_tl {t : MTst} (h : tstOk t = true) (hs : t.2.1 = 3 ∨ t.2.1 = 4) : tlPre t = true := by
  unfold tstOk at h
  obtain ⟨hA, hB⟩ := Bool.and_eq_true_iff.1 h
  have hp := tsPre_of hA
  have h0 : t.2.1 ≠ 0 := by omega
  unfold tstOkB at hB
  rw [decide_eq_false h0, cond_false, Bool.and_eq_true] at hB
  have he : t.2.1 = stateOf t := of_decide_eq_true hB.1
  refine tlPre_iff.2 ⟨hp, fun c1 hne => ?_⟩
  unfold stateOf at he
  rw [c1, hne] at he
  simp only [List.length_nil, if_neg (show ¬ (1 : Int) = 0 by decide), if_neg (show ¬ (1 : Int) = 3 by decide), need, if_true] at he
  rw [if_pos (by decide)] at he
  omega
end Go.Proofs.Ytjmohfahchamaaa

set_option linter.unusedVariables false
set_option linter.unusedSimpArgs false
namespace Go.Proofs.Ytjmohfahchamaaa
open Go.Vm

theorem p_szLen (n : Nat) (l : Int) (h1 : n ≤ 9223372036854775807) (h2 : 0 ≤ l) (h3 : l ≤ 1048576) : (bif (decide ((w64 (l - (n : Int))) < (0 : Int))) then (some ((-1 : Int), ())) else (some ((w64 (l - (n : Int))), ()))) = some (if l < (n : Int) then -1 else l - (n : Int), ()) := by
  rw [w64_eq (by omega) (by omega)]
  by_cases h : l < n
  · rw [if_pos h, decide_eq_true (by omega)]; rfl
  · rw [if_neg h, decide_eq_false (by omega)]; rfl
theorem p_szPass (n : Nat) (l : Int) (h : 0 ≤ l) : (bif decide ((if l < (n : Int) then -1 else l - (n : Int)) < (0 : Int)) then (some ((-1 : Int), ())) else (some ((if l < (n : Int) then -1 else l - (n : Int)), ()))) = some ((if l < (n : Int) then -1 else l - (n : Int)), ()) := by
  by_cases h1 : l < (n : Int)
  · rw [if_pos h1]; rfl
  · rw [if_neg h1, decide_eq_false (by omega)]; rfl
/-- What is left behind so many. -/
def szN (n : Nat) (l : Int) : Int := if l < (n : Int) then -1 else l - (n : Int)
theorem szN_small {n : Nat} {l : Int} (h : l ≤ 1048576) (h2 : ¬ szN n l < 0) : n ≤ 1048576 := by
  unfold szN at h2; split at h2 <;> omega

theorem s_iisUser : C_iisUser (fun _ => true) (fun x => (inq x.1 1 5, ())) := S_iisUser s_iin fun x _ => ⟨0, ev_iisUser 0 x.1⟩
end Go.Proofs.Ytjmohfahchamaaa

set_option linter.unusedVariables false
set_option linter.unusedSimpArgs false
namespace Go.Proofs.Ytjmohfahchamaaa
open Go.Vm

noncomputable def spcFind (l : List MAsk) (n : Int) : MAsk × Bool := bif decide (idxOf (fun t : MAsk => decide (t.1 = n)) l 0 < 0) then ((0, (0, 0), (0, 0), 0), false) else (rdL (e := S_SpcTest) l (idxOf (fun t : MAsk => decide (t.1 = n)) l 0), true)
theorem beq_ask (a b : MAsk) : Sh.beq S_SpcTest a b = same a b := by
  show (decide (a.1 = b.1) && ((decide (a.2.1.1 = b.2.1.1) && decide (a.2.1.2 = b.2.1.2)) && ((decide (a.2.2.1.1 = b.2.2.1.1) && decide (a.2.2.1.2 = b.2.2.1.2)) && decide (a.2.2.2 = b.2.2.2)))) = _
  simp only [same_int, same_pair]
end Go.Proofs.Ytjmohfahchamaaa

set_option linter.unusedVariables false
set_option linter.unusedSimpArgs false
namespace Go.Proofs.Ytjmohfahchamaaa
open Go.Vm

theorem rd_spc (l : List MSpc) (k : Int) : rdL (e := S_SpcSpec) l k = l.getD k.toNat ([], 0) := rfl
end Go.Proofs.Ytjmohfahchamaaa

set_option linter.unusedVariables false
set_option linter.unusedSimpArgs false
namespace Go.Proofs.Ytjmohfahchamaaa
open Go.Vm
theorem rdL_set {S : Sh} {l : List S.den} {i : Nat} {x : S.den} (h : i < l.length) : rdL (e := S) (l.set i x) (i : Int) = x := by
  unfold rdL
  rw [Int.toNat_natCast, List.getD_eq_getElem?_getD, List.getElem?_set_self h]; rfl
end Go.Proofs.Ytjmohfahchamaaa

set_option linter.unusedVariables false
set_option linter.unusedSimpArgs false
namespace Go.Proofs.Ytjmohfahchamaaa
open Go.Vm
def smT (t : MTst) : Bool := decide (t.2.2.2.2.length ≤ 4294967296)
theorem p_clone {α : Type} (l : List α) (hl : l.length ≤ 4294967296) : (bif (List.isEmpty l) then (agree (some (([] : List α), ())) (bif (fitL [] l) then (some ((List.append [] l), ())) else none)) else (bif (fitL [] l) then (some ((List.append [] l), ())) else none)) = some (l, ()) := by
  rw [fitL_eq (by show 0 + l.length ≤ _; omega)]
  cases l with
  | nil => unfold agree; exact if_pos rfl
  | cons a r => rfl
theorem p_turn {β : Type} (a b c : Bool) (A B : β) : (bif (bif a then false else true) then B else (bif (bif b then false else true) then B else (bif (bif c then false else true) then B else A))) = bif a && (b && c) then A else B := by
  cases a <;> cases b <;> cases c <;> rfl
theorem ok_len {t : MTst} (h : tstOk t = true) : t.2.2.2.2.length ≤ 2 := (tsPre_iff.1 (tsPre_of (tstOk_iff.1 h).1)).2.2.2
end Go.Proofs.Ytjmohfahchamaaa

set_option linter.unusedVariables false
set_option linter.unusedSimpArgs false
namespace Go.Proofs.Ytjmohfahchamaaa
open Go.Vm
theorem smT_of {t : MTst} {n : Nat} (h : List.length t.2.2.2.2 ≤ n) (hn : n ≤ 4294967296) : smT t = true := decide_eq_true (Nat.le_trans h hn)
end Go.Proofs.Ytjmohfahchamaaa

set_option linter.unusedVariables false
set_option linter.unusedSimpArgs false
namespace Go.Proofs.Ytjmohfahchamaaa
open Go.Vm
theorem p_batNew {k n : Int} {l : List MAsk} (A : Option (MBat × Unit)) (hA : inq k 0 5 = true → testsOk l = true → inq n 1 10000 = true → A = some ((k, n, l.map newT, 1, [], []), ())) :
    (bif (bif inq k 0 5 then false else true) then (some (((0 : Int), ((0 : Int), ([], ((0 : Int), ([], []))))), ())) else (bif (bif testsOk l then false else true) then (some (((0 : Int), ((0 : Int), ([], ((0 : Int), ([], []))))), ())) else (bif (bif inq n 1 10000 then false else true) then (some (((0 : Int), ((0 : Int), ([], ((0 : Int), ([], []))))), ())) else A))) = some (batNew k l n, ()) := by
  unfold batNew
  cases h1 : inq k 0 5
  · rfl
  · cases h2 : testsOk l
    · rfl
    · cases h3 : inq n 1 10000
      · rfl
      · exact hA h1 h2 h3
theorem beq_sig (a b : MSig) : Sh.beq S_BatSig a b = same a b := by
  show (decide (a.1 = b.1) && (decide (a.2.1 = b.2.1) && decide (a.2.2 = b.2.2))) = _
  simp only [same_int, same_pair]
theorem beq_bool (a b : Bool) : (a == b) = same a b := by
  cases a <;> cases b <;> first | exact (same_self _).symm | exact (same_false (by decide)).symm
theorem same_bat (a b : MBat) : same a b = (same a.1 b.1 && (same a.2.1 b.2.1 && (same a.2.2.2.1 b.2.2.2.1 && (same a.2.2.1 b.2.2.1 && (same a.2.2.2.2.1 b.2.2.2.2.1 && same a.2.2.2.2.2 b.2.2.2.2.2))))) := by
  rw [show same a b = same (a.1, a.2.1, a.2.2.1, a.2.2.2.1, a.2.2.2.2.1, a.2.2.2.2.2) (b.1, b.2.1, b.2.2.1, b.2.2.2.1, b.2.2.2.2.1, b.2.2.2.2.2) from rfl, ← same_pair, ← same_pair, ← same_pair, ← same_pair, ← same_pair]
  cases same a.1 b.1 <;> cases same a.2.1 b.2.1 <;> cases same a.2.2.1 b.2.2.1 <;> cases same a.2.2.2.1 b.2.2.2.1 <;> rfl
theorem mixPre_of {m : Int} {l : List Int} (h : mkR m) (hl : l.length ≤ 4) : mixPre m l = true := mixPre_iff.2 ⟨h, by omega⟩
theorem foldI_mores : ∀ (l : List MDec) (i : Nat) (m : Int), foldI (fun _ m (v : MDec) => mix (mix m v.1) v.2) i m l = markMore m l
  | [], i, m => rfl
  | v :: r, i, m => foldI_mores r (i + 1) _
theorem foldI_tsts : ∀ (l : List MTst) (i : Nat) (m : Int), foldI (fun _ m t => markTst m t) i m l = markTsts m l
  | [], i, m => rfl
  | v :: r, i, m => foldI_tsts r (i + 1) _
theorem foldI_devs : ∀ (l : List Bool) (i : Nat) (m : Int), foldI (fun i m d => markDev m i d) i m l = markDevs i m l
  | [], i, m => rfl
  | v :: r, i, m => foldI_devs r (i + 1) _
theorem okA_smB {b : MBat} (h1 : inq b.2.2.1.length 1 4 = true) (ht : b.2.2.1.all tstOk = true) (hs : b.2.2.2.2.1.length ≤ 6) (hd : b.2.2.2.2.2.length ≤ 3) : smB b = true := by
  have := inq_iff.1 h1
  refine smB_iff.2 ⟨by omega, fun t hm => ?_, by omega, by omega⟩
  have := tstOk_len (List.all_eq_true.1 ht t hm)
  omega
end Go.Proofs.Ytjmohfahchamaaa

set_option linter.unusedVariables false
set_option linter.unusedSimpArgs false
namespace Go.Proofs.Ytjmohfahchamaaa
open Go.Vm
theorem s_ginternal_stringslite_IndexByte : C_ginternal_stringslite_IndexByte (fun _ => true) (fun x => (Go.Lib.indexByte x.1.data.toList x.2.1.toNat.toUInt8, ())) := S_ginternal_stringslite_IndexByte s_ginternal_bytealg_IndexByteString fun x _ => ⟨0, (ev_ginternal_stringslite_IndexByte 0 x.1 x.2.1).trans rfl⟩
/-- Where a letter stands in a word. -/
def wordAt (s w : ByteArray) : Int := bif s.data.toList == w.data.toList then 0 else Go.Lib.indexByte s.data.toList (strAt w 0).toNat.toUInt8
def one1 (w : ByteArray) : Bool := decide (w.data.toList.length = 1)
theorem one_size {w : ByteArray} (h : one1 w = true) : ByteArray.size w = 1 := by
  have h : w.data.toList.length = 1 := of_decide_eq_true h
  rw [← h]; rfl
theorem s_ginternal_stringslite_Index : C_ginternal_stringslite_Index (fun x => one1 x.2.1) (fun x => (wordAt x.1 x.2.1, ())) := S_ginternal_stringslite_Index s_ginternal_stringslite_IndexByte fun x hx => ⟨0, (ev_ginternal_stringslite_Index 0 x.1 x.2.1).trans (by
  have h : ByteArray.size x.2.1 = 1 := one_size hx
  rw [h]
  have e : (ByteArray.toList x.2.1 == ByteArray.toList x.1) = (x.1.data.toList == x.2.1.data.toList) := by
    rw [ByteArray.toList_eq, ByteArray.toList_eq, Bool.beq_comm]
  rw [e]
  unfold wordAt
  cases (x.1.data.toList == x.2.1.data.toList) <;> rfl)⟩
theorem s_gstrings_Index : C_gstrings_Index (fun x => one1 x.2.1) (fun x => (wordAt x.1 x.2.1, ())) := S_gstrings_Index s_ginternal_stringslite_Index fun x hx => ⟨0, (ev_gstrings_Index 0 x.1 x.2.1).trans (cl_eq hx)⟩
theorem s_gstrings_Contains : C_gstrings_Contains (fun x => one1 x.2.1) (fun x => (decide (0 ≤ wordAt x.1 x.2.1), ())) := S_gstrings_Contains s_gstrings_Index fun x hx => ⟨0, (ev_gstrings_Contains 0 x.1 x.2.1).trans (cl_eq hx)⟩
theorem s_iReqOk_c1 : C_iReqOk_c1 (fun x => one1 x.1) (fun x => (decide (0 ≤ wordAt x.2.1.2.2 x.1), ())) := S_iReqOk_c1 s_gstrings_Contains fun x hx => ⟨0, (ev_iReqOk_c1 0 x.1 x.2.1).trans (cl_eq hx)⟩
abbrev MMan : Type := ByteArray × List Int × ByteArray
def by0 : ByteArray := ByteArray.mk (Array.mk [])
def mans : List MMan := [((ByteArray.mk (Array.mk [])), ([], (ByteArray.mk (Array.mk [])))), ((ByteArray.mk (Array.mk [(100 : UInt8), (114 : UInt8), (97 : UInt8), (102 : UInt8), (116 : UInt8)])), ([(4 : Int)], (ByteArray.mk (Array.mk [])))), ((ByteArray.mk (Array.mk [(114 : UInt8), (97 : UInt8), (105 : UInt8), (115 : UInt8), (101 : UInt8)])), ([(4 : Int)], (ByteArray.mk (Array.mk [(78 : UInt8)])))), ((ByteArray.mk (Array.mk [(116 : UInt8), (97 : UInt8), (107 : UInt8), (101 : UInt8)])), ([(1 : Int), (2 : Int)], (ByteArray.mk (Array.mk [(78 : UInt8)])))), ((ByteArray.mk (Array.mk [(112 : UInt8), (117 : UInt8), (116 : UInt8)])), ([(1 : Int), (2 : Int)], (ByteArray.mk (Array.mk [(66 : UInt8), (84 : UInt8), (86 : UInt8)])))), ((ByteArray.mk (Array.mk [(99 : UInt8), (97 : UInt8), (117 : UInt8), (115 : UInt8), (101 : UInt8)])), ([(2 : Int), (3 : Int)], (ByteArray.mk (Array.mk [(66 : UInt8), (84 : UInt8), (78 : UInt8)])))), ((ByteArray.mk (Array.mk [(109 : UInt8), (111 : UInt8), (114 : UInt8), (101 : UInt8)])), ([(1 : Int), (2 : Int)], (ByteArray.mk (Array.mk [(66 : UInt8), (84 : UInt8), (86 : UInt8)])))), ((ByteArray.mk (Array.mk [(111 : UInt8), (112 : UInt8), (101 : UInt8), (110 : UInt8)])), ([(1 : Int), (2 : Int)], (ByteArray.mk (Array.mk [(66 : UInt8)])))), ((ByteArray.mk (Array.mk [(99 : UInt8), (108 : UInt8), (111 : UInt8), (115 : UInt8), (101 : UInt8)])), ([(2 : Int), (3 : Int)], (ByteArray.mk (Array.mk [(66 : UInt8), (78 : UInt8)])))), ((ByteArray.mk (Array.mk [(115 : UInt8), (105 : UInt8), (103 : UInt8), (110 : UInt8)])), ([(2 : Int), (3 : Int)], (ByteArray.mk (Array.mk [(66 : UInt8)])))), ((ByteArray.mk (Array.mk [(102 : UInt8), (114 : UInt8), (101 : UInt8), (101 : UInt8)])), ([(3 : Int)], (ByteArray.mk (Array.mk [(66 : UInt8)])))), ((ByteArray.mk (Array.mk [(114 : UInt8), (101 : UInt8), (102 : UInt8), (117 : UInt8), (115 : UInt8), (101 : UInt8)])), ([(3 : Int)], (ByteArray.mk (Array.mk [(66 : UInt8)])))), ((ByteArray.mk (Array.mk [(114 : UInt8), (101 : UInt8), (99 : UInt8), (97 : UInt8), (108 : UInt8), (108 : UInt8)])), ([(3 : Int)], (ByteArray.mk (Array.mk [(66 : UInt8)]))))]
theorem s_imanners : C_imanners (fun _ => true) (fun _ => (mans, ())) := S_imanners fun x _ => ⟨0, ev_imanners 0⟩
def manOf (k : Int) : MMan := if inq k 1 12 = true then mans.getD k.toNat (by0, [], by0) else (by0, [], by0)
theorem s_imannerOf : C_imannerOf (fun _ => true) (fun x => (manOf x.1, ())) := S_imannerOf s_iin s_imanners fun x _ => ⟨0, (ev_imannerOf 0 x.1).trans (by
  have key : ∀ k : Int, (bif (bif inq k 1 12 then false else true) then some ((by0, [], by0), ()) else (bif (bif decide ((0 : Int) ≤ k) then decide (k < (List.length mans : Int)) else false) then some ((rdL (e := S_manner) mans k), ()) else none)) = some (manOf k, ()) := by
    intro k
    unfold manOf
    cases h : inq k 1 12
    · rfl
    · obtain ⟨h1, h2⟩ := inq_iff.1 h
      have hl : ((List.length mans : Nat) : Int) = 13 := rfl
      rw [hl, decide_eq_true (show (0 : Int) ≤ k by omega), decide_eq_true (show k < 13 by omega)]; rfl
  exact key x.1)⟩
theorem kinds {k : Int} (h : inq k 1 12 = true) : k = 1 ∨ k = 2 ∨ k = 3 ∨ k = 4 ∨ k = 5 ∨ k = 6 ∨ k = 7 ∨ k = 8 ∨ k = 9 ∨ k = 10 ∨ k = 11 ∨ k = 12 := by
  have := inq_iff.1 h; omega
/-- What is known of a kind. -/
theorem man_word (k : Int) : (ByteArray.toList (manOf k).1 == ByteArray.toList by0) = !inq k 1 12 := by
  rw [ByteArray.toList_eq, ByteArray.toList_eq]
  cases h : inq k 1 12
  · unfold manOf; rw [h]; rfl
  · rcases kinds h with rfl | rfl | rfl | rfl | rfl | rfl | rfl | rfl | rfl | rfl | rfl | rfl <;> rfl
theorem man_has (k : Int) : decide (0 ≤ wordAt (manOf k).2.2 (ByteArray.mk (Array.mk [(66 : UInt8)]))) = hasB k ∧ decide (0 ≤ wordAt (manOf k).2.2 (ByteArray.mk (Array.mk [(78 : UInt8)]))) = hasN k ∧ decide (0 ≤ wordAt (manOf k).2.2 (ByteArray.mk (Array.mk [(86 : UInt8)]))) = hasV k ∧ decide (0 ≤ wordAt (manOf k).2.2 (ByteArray.mk (Array.mk [(84 : UInt8)]))) = hasT k := by
  cases h : inq k 1 12
  · have h' : ¬ (1 ≤ k ∧ k ≤ 12) := fun h2 => by rw [inq_iff.2 h2] at h; cases h
    have e : manOf k = (by0, [], by0) := by unfold manOf; rw [h]; rfl
    have b1 : hasB k = false := by unfold hasB; refine Bool.eq_false_iff.2 fun h2 => ?_; have := inq_iff.1 h2; omega
    have b2 : hasT k = false := by unfold hasT; refine Bool.eq_false_iff.2 fun h2 => ?_; have := inq_iff.1 h2; omega
    have b3 : hasN k = false := by unfold hasN; rw [decide_eq_false (by omega), decide_eq_false (by omega), decide_eq_false (by omega), decide_eq_false (by omega)]; rfl
    have b4 : hasV k = false := by unfold hasV; rw [decide_eq_false (by omega), decide_eq_false (by omega)]; rfl
    rw [e, b1, b2, b3, b4]
    exact ⟨rfl, rfl, rfl, rfl⟩
  · rcases kinds h with rfl | rfl | rfl | rfl | rfl | rfl | rfl | rfl | rfl | rfl | rfl | rfl <;> exact ⟨rfl, rfl, rfl, rfl⟩
theorem bif_let {c : Bool} {a b : Bool} : (bif c then (some (a, ())) else (some (b, ())) : Option (Bool × Unit)) = some (bif c then a else b, ()) := by cases c <;> rfl
theorem s_iReqOk : C_iReqOk (fun x => smA x.1.2.2.2.2.2.2) (fun x => (reqOk x.1, ())) := S_iReqOk s_imannerOf s_iSpcTestsOk s_iReqOk_c1 s_iin s_iDecOk s_iisTest s_iisUser fun x hx => ⟨0, (ev_iReqOk 0 x.1).trans (by
  obtain ⟨r, u⟩ := x
  change MReq at r
  have hx : decide (List.length r.2.2.2.2.2.2 ≤ 4294967296) = true := hx
  obtain ⟨hB, hN, hV, hT⟩ := man_has r.2.1
  have o1 : one1 (ByteArray.mk (Array.mk [(66 : UInt8)])) = true := rfl
  have o2 : one1 (ByteArray.mk (Array.mk [(78 : UInt8)])) = true := rfl
  have o3 : one1 (ByteArray.mk (Array.mk [(86 : UInt8)])) = true := rfl
  have o4 : one1 (ByteArray.mk (Array.mk [(84 : UInt8)])) = true := rfl
  have hw : (ByteArray.toList (manOf r.2.1).1 == ByteArray.toList (ByteArray.mk (Array.mk []))) = !inq r.2.1 1 12 := man_word r.2.1
  have e0 : decide ((List.length r.2.2.2.2.2.2 : Int) = (0 : Int)) = decide (List.length r.2.2.2.2.2.2 = 0) := by
    by_cases h : List.length r.2.2.2.2.2.2 = 0
    · rw [decide_eq_true h, decide_eq_true (by omega)]
    · rw [decide_eq_false h, decide_eq_false (by omega)]
  simp only [lt_eq, cl, o1, o2, o3, o4, hx, hB, hN, hV, hT, hw, e0, beq_dec, cond_true, bif_let, bif_and]
  unfold reqOk
  generalize inq r.2.1 1 12 = wd
  generalize inq r.1 1 5 = us
  generalize decide (r.2.2.1 = 0) = b0
  generalize hasB r.2.1 = hb
  generalize inq r.2.2.1 0 9 = ib
  generalize decide (r.2.2.2.2.1 = 0) = n0
  generalize hasN r.2.1 = hn
  generalize inq r.2.2.2.2.1 0 10000 = nn
  generalize same r.2.2.2.2.2.1 ((0 : Int), (0 : Int)) = v0
  generalize hasV r.2.1 = hv
  generalize decOk r.2.2.2.2.2.1 = vv
  generalize hasT r.2.1 = ht
  generalize inq r.2.2.2.1 1 4 = tt
  generalize decide (r.2.2.2.1 = 0) = t0'
  generalize decide (r.2.1 = 1) = k1
  generalize testsOk r.2.2.2.2.2.2 = ts
  generalize decide (List.length r.2.2.2.2.2.2 = 0) = ts0
  cases k1 <;> cases b0 <;> cases hb <;> cases n0 <;> cases hn <;> cases v0 <;> cases hv <;> cases ht <;> cases wd <;> cases us <;> first | rfl | (cases ib <;> first | rfl | (cases nn <;> first | rfl | (cases vv <;> first | rfl | (cases tt <;> first | rfl | (cases t0' <;> rfl))))))⟩
theorem s_lszReqReq : C_lszReqReq (fun x => okLen (List.length x.1.2.2.2.2.2.2) && inq x.2.1 0 1048576) (fun x => (szN (List.length x.1.2.2.2.2.2.2) x.2.1, ())) := S_lszReqReq s_lszSpcTestS fun x hx => ⟨0, (ev_lszReqReq 0 x.1 x.2.1).trans (by
  have hx : (okLen (List.length x.1.2.2.2.2.2.2) && inq x.2.1 0 1048576) = true := hx
  rw [cl_eq hx]
  exact p_szPass _ _ (inq_iff.1 (Bool.and_eq_true_iff.1 hx).2).1)⟩
theorem s_ltoReqReq : C_ltoReqReq (fun x => decide (List.length x.1.2.2.2.2.2.2 ≤ 4294967296)) (fun x => (x.1, ())) := S_ltoReqReq s_ltoDecDec s_ltoSpcTestS fun x hx => ⟨0, (ev_ltoReqReq 0 x.1).trans (cl_eq hx)⟩
theorem same_req (a b : MReq) : same a b = (same a.1 b.1 && (same a.2.1 b.2.1 && (same a.2.2.1 b.2.2.1 && (same a.2.2.2.1 b.2.2.2.1 && (same a.2.2.2.2.1 b.2.2.2.2.1 && (same a.2.2.2.2.2.1 b.2.2.2.2.2.1 && same a.2.2.2.2.2.2 b.2.2.2.2.2.2)))))) := by
  rw [show same a b = same (a.1, a.2.1, a.2.2.1, a.2.2.2.1, a.2.2.2.2.1, a.2.2.2.2.2.1, a.2.2.2.2.2.2) (b.1, b.2.1, b.2.2.1, b.2.2.2.1, b.2.2.2.2.1, b.2.2.2.2.2.1, b.2.2.2.2.2.2) from rfl, ← same_pair, ← same_pair, ← same_pair, ← same_pair, ← same_pair, ← same_pair]
theorem s_leqReqReq : C_leqReqReq (fun x => decide (List.length x.1.2.2.2.2.2.2 ≤ 4294967296)) (fun x => (same x.1 x.2.1, ())) := S_leqReqReq s_leqDecDec s_leqSpcTestS fun x hx => ⟨0, (ev_leqReqReq 0 x.1 x.2.1).trans (by
  obtain ⟨a, b, u⟩ := x
  change MReq at a
  change MReq at b
  have hx : decide (List.length a.2.2.2.2.2.2 ≤ 4294967296) = true := hx
  rw [same_req a b]
  simp only [cl, hx, cond_true, same_int]
  cases same a.1 b.1 <;> cases same a.2.1 b.2.1 <;> cases same a.2.2.1 b.2.2.1 <;> cases same a.2.2.2.1 b.2.2.2.1 <;> cases same a.2.2.2.2.1 b.2.2.2.2.1 <;> cases same a.2.2.2.2.2.1 b.2.2.2.2.2.1 <;> cases same a.2.2.2.2.2.2 b.2.2.2.2.2.2 <;> rfl)⟩
/-- A request in the form of its kind. -/
def form8 (r : MReq) : MReq :=
  if r.2.1 = 1 then (r.1, r.2.1, 0, 0, 0, (0, 0), r.2.2.2.2.2.2) else if r.2.1 = 2 then (r.1, r.2.1, 0, 0, r.2.2.2.2.1, (0, 0), []) else if r.2.1 = 3 then (r.1, r.2.1, 0, 0, r.2.2.2.2.1, (0, 0), [])
  else if r.2.1 = 4 then (r.1, r.2.1, r.2.2.1, r.2.2.2.1, 0, r.2.2.2.2.2.1, []) else if r.2.1 = 6 then (r.1, r.2.1, r.2.2.1, r.2.2.2.1, 0, r.2.2.2.2.2.1, []) else if r.2.1 = 5 then (r.1, r.2.1, r.2.2.1, r.2.2.2.1, r.2.2.2.2.1, (0, 0), [])
  else if r.2.1 = 8 then (r.1, r.2.1, r.2.2.1, 0, r.2.2.2.2.1, (0, 0), []) else (r.1, r.2.1, r.2.2.1, 0, 0, (0, 0), [])
theorem bif_if {α : Type} {p : Prop} [Decidable p] {a b c : α} (hb : p → a = c) (hb2 : ¬ p → b = c) : (bif decide p then a else b) = c := by
  by_cases h : p
  · rw [decide_eq_true h]; exact hb h
  · rw [decide_eq_false h]; exact hb2 h
theorem s_sl8Form : C_sl8Form (fun _ => true) (fun x => (form8 x.1, ())) := S_sl8Form fun x _ => ⟨0, (ev_sl8Form 0 x.1).trans (by
  unfold form8
  refine bif_if (fun h => by rw [if_pos h]) fun h => ?_
  rw [if_neg h]
  refine bif_if (fun h => by rw [if_pos h]) fun h => ?_
  rw [if_neg h]
  refine bif_if (fun h => by rw [if_pos h]) fun h => ?_
  rw [if_neg h]
  refine bif_if (fun h => by rw [if_pos h]) fun h => ?_
  rw [if_neg h]
  refine bif_if (fun h => by rw [if_pos h]) fun h => ?_
  rw [if_neg h]
  refine bif_if (fun h => by rw [if_pos h]) fun h => ?_
  rw [if_neg h]
  refine bif_if (fun h => by rw [if_pos h]) fun h => ?_
  rw [if_neg h])⟩
theorem s_sl8Same : C_sl8Same (fun x => smA x.1.2.2.2.2.2.2) (fun x => (same x.1 x.2.1, ())) := S_sl8Same fun x hx => by
  obtain ⟨a, b, u⟩ := x
  change MReq at a
  change MReq at b
  have hx : List.length a.2.2.2.2.2.2 ≤ 4294967296 := of_decide_eq_true hx
  have ev := fun k => ev_sl8Same k a b
  show ∃ k, E_sl8Same k (a, b, ()) = some (same a b, ())
  simp only [ev]
  rw [same_req a b]
  by_cases hl : List.length a.2.2.2.2.2.2 = List.length b.2.2.2.2.2.2
  · have el : (List.length a.2.2.2.2.2.2 : Int) = (List.length b.2.2.2.2.2.2 : Int) := by omega
    rw [decide_eq_true el]
    have hs : (same a.2.2.2.2.2.2 b.2.2.2.2.2.2 && (same a.1 b.1 && (same a.2.1 b.2.1 && (same a.2.2.1 b.2.2.1 && (same a.2.2.2.1 b.2.2.2.1 && (same a.2.2.2.2.1 b.2.2.2.2.1 && same a.2.2.2.2.2.1 b.2.2.2.2.2.1)))))) = (same a.1 b.1 && (same a.2.1 b.2.1 && (same a.2.2.1 b.2.2.1 && (same a.2.2.2.1 b.2.2.2.1 && (same a.2.2.2.2.1 b.2.2.2.2.1 && (same a.2.2.2.2.2.1 b.2.2.2.2.2.1 && same a.2.2.2.2.2.2 b.2.2.2.2.2.2)))))) := by
      cases same a.2.2.2.2.2.2 b.2.2.2.2.2.2 <;> simp
    rw [← hs]
    exact eq_loop2 (α := MAsk) a.2.2.2.2.2.2 b.2.2.2.2.2.2 hl (same a.1 b.1 && (same a.2.1 b.2.1 && (same a.2.2.1 b.2.2.1 && (same a.2.2.2.1 b.2.2.2.1 && (same a.2.2.2.2.1 b.2.2.2.2.1 && same a.2.2.2.2.2.1 b.2.2.2.2.2.1))))) (fun k i => r_sl8Same (a, b, ()) k [false, true, false, true, true] (h0_sl8Same a b (i : Int))) ⟨1, by
        rw [rd0_sl8Same, lt_false (Nat.le_refl _), beq_dec]
        simp only [same_int]
        cases same a.1 b.1 <;> cases same a.2.1 b.2.1 <;> cases same a.2.2.1 b.2.2.1 <;> cases same a.2.2.2.1 b.2.2.2.1 <;> cases same a.2.2.2.2.1 b.2.2.2.2.1 <;> cases same a.2.2.2.2.2.1 b.2.2.2.2.2.1 <;> rfl⟩ (fun k i y z r r' hd hd' hi hi' => by
        rw [rd0_sl8Same, in_true hi, in_true hi', lt_true hi, w_succ (by omega), rdL_drop hd, rdL_drop hd', beq_ask]
        cases same y z <;> rfl)
  · refine ⟨0, ?_⟩
    rw [decide_eq_false (by omega), same_len hl]
    simp only [Bool.and_false]; rfl
/-- It is in the form just if what it does not have is nothing. -/
theorem form_eq (r : MReq) : same r (form8 r) = ((decide (r.2.2.1 = 0) || hasB r.2.1 || (!inq r.2.1 1 12)) && (decide (r.2.2.2.2.1 = 0) || hasN r.2.1) && (same r.2.2.2.2.2.1 (0, 0) || hasV r.2.1) && (decide (r.2.2.2.1 = 0) || hasT r.2.1) && (decide (r.2.1 = 1) || decide (r.2.2.2.2.2.2.length = 0))) := by
  obtain ⟨u, k, b, t, n, v, l⟩ := r
  have hl : same l [] = decide (l.length = 0) := by
    cases l with
    | nil => rw [same_self]; rfl
    | cons a r => rw [same_false (by simp)]; rfl
  have h0 : ∀ x : Int, same x 0 = decide (x = 0) := fun x => (same_int x 0).symm
  show same ((u, k, b, t, n, v, l) : MReq) (form8 (u, k, b, t, n, v, l)) = ((decide (b = 0) || hasB k || (!inq k 1 12)) && (decide (n = 0) || hasN k) && (same v (0, 0) || hasV k) && (decide (t = 0) || hasT k) && (decide (k = 1) || decide (l.length = 0)))
  cases hk : inq k 1 12
  · have h' : ¬ (1 ≤ k ∧ k ≤ 12) := fun h2 => by rw [inq_iff.2 h2] at hk; cases hk
    have b2 : hasT k = false := by unfold hasT; refine Bool.eq_false_iff.2 fun h2 => ?_; have := inq_iff.1 h2; omega
    have b3 : hasN k = false := by unfold hasN; rw [decide_eq_false (by omega), decide_eq_false (by omega), decide_eq_false (by omega), decide_eq_false (by omega)]; rfl
    have b4 : hasV k = false := by unfold hasV; rw [decide_eq_false (by omega), decide_eq_false (by omega)]; rfl
    have e : form8 (u, k, b, t, n, v, l) = (u, k, b, 0, 0, (0, 0), []) := by
      unfold form8
      rw [if_neg (show ¬ k = 1 by omega), if_neg (show ¬ k = 2 by omega), if_neg (show ¬ k = 3 by omega), if_neg (show ¬ k = 4 by omega), if_neg (show ¬ k = 6 by omega), if_neg (show ¬ k = 5 by omega), if_neg (show ¬ k = 8 by omega)]
    rw [e, b2, b3, b4, decide_eq_false (show ¬ k = 1 by omega), same_req]
    simp only [same_self, h0, hl, Bool.true_and, Bool.not_false, Bool.or_true, Bool.or_false, Bool.false_or]
    cases decide (t = 0) <;> cases decide (n = 0) <;> cases same v (0, 0) <;> cases decide (l.length = 0) <;> rfl
  · rcases kinds hk with rfl | rfl | rfl | rfl | rfl | rfl | rfl | rfl | rfl | rfl | rfl | rfl
    · have e : form8 (u, 1, b, t, n, v, l) = (u, 1, 0, 0, 0, (0, 0), l) := rfl
      rw [e, same_req]
      show (same u u && (same (1 : Int) 1 && (same b 0 && (same t 0 && (same n 0 && (same v (0, 0) && same l l)))))) = ((decide (b = 0) || false || (!true)) && (decide (n = 0) || false) && (same v (0, 0) || false) && (decide (t = 0) || false) && (true || decide (l.length = 0)))
      simp only [same_self, h0, hl]
      cases decide (b = 0) <;> cases decide (t = 0) <;> cases decide (n = 0) <;> cases same v (0, 0) <;> cases decide (l.length = 0) <;> rfl
    · have e : form8 (u, 2, b, t, n, v, l) = (u, 2, 0, 0, n, (0, 0), []) := rfl
      rw [e, same_req]
      show (same u u && (same (2 : Int) 2 && (same b 0 && (same t 0 && (same n n && (same v (0, 0) && same l [])))))) = ((decide (b = 0) || false || (!true)) && (decide (n = 0) || true) && (same v (0, 0) || false) && (decide (t = 0) || false) && (false || decide (l.length = 0)))
      simp only [same_self, h0, hl]
      cases decide (b = 0) <;> cases decide (t = 0) <;> cases decide (n = 0) <;> cases same v (0, 0) <;> cases decide (l.length = 0) <;> rfl
    · have e : form8 (u, 3, b, t, n, v, l) = (u, 3, 0, 0, n, (0, 0), []) := rfl
      rw [e, same_req]
      show (same u u && (same (3 : Int) 3 && (same b 0 && (same t 0 && (same n n && (same v (0, 0) && same l [])))))) = ((decide (b = 0) || false || (!true)) && (decide (n = 0) || true) && (same v (0, 0) || false) && (decide (t = 0) || false) && (false || decide (l.length = 0)))
      simp only [same_self, h0, hl]
      cases decide (b = 0) <;> cases decide (t = 0) <;> cases decide (n = 0) <;> cases same v (0, 0) <;> cases decide (l.length = 0) <;> rfl
    · have e : form8 (u, 4, b, t, n, v, l) = (u, 4, b, t, 0, v, []) := rfl
      rw [e, same_req]
      show (same u u && (same (4 : Int) 4 && (same b b && (same t t && (same n 0 && (same v v && same l [])))))) = ((decide (b = 0) || true || (!true)) && (decide (n = 0) || false) && (same v (0, 0) || true) && (decide (t = 0) || true) && (false || decide (l.length = 0)))
      simp only [same_self, h0, hl]
      cases decide (b = 0) <;> cases decide (t = 0) <;> cases decide (n = 0) <;> cases same v (0, 0) <;> cases decide (l.length = 0) <;> rfl
    · have e : form8 (u, 5, b, t, n, v, l) = (u, 5, b, t, n, (0, 0), []) := rfl
      rw [e, same_req]
      show (same u u && (same (5 : Int) 5 && (same b b && (same t t && (same n n && (same v (0, 0) && same l [])))))) = ((decide (b = 0) || true || (!true)) && (decide (n = 0) || true) && (same v (0, 0) || false) && (decide (t = 0) || true) && (false || decide (l.length = 0)))
      simp only [same_self, h0, hl]
      cases decide (b = 0) <;> cases decide (t = 0) <;> cases decide (n = 0) <;> cases same v (0, 0) <;> cases decide (l.length = 0) <;> rfl
    · have e : form8 (u, 6, b, t, n, v, l) = (u, 6, b, t, 0, v, []) := rfl
      rw [e, same_req]
      show (same u u && (same (6 : Int) 6 && (same b b && (same t t && (same n 0 && (same v v && same l [])))))) = ((decide (b = 0) || true || (!true)) && (decide (n = 0) || false) && (same v (0, 0) || true) && (decide (t = 0) || true) && (false || decide (l.length = 0)))
      simp only [same_self, h0, hl]
      cases decide (b = 0) <;> cases decide (t = 0) <;> cases decide (n = 0) <;> cases same v (0, 0) <;> cases decide (l.length = 0) <;> rfl
    · have e : form8 (u, 7, b, t, n, v, l) = (u, 7, b, 0, 0, (0, 0), []) := rfl
      rw [e, same_req]
      show (same u u && (same (7 : Int) 7 && (same b b && (same t 0 && (same n 0 && (same v (0, 0) && same l [])))))) = ((decide (b = 0) || true || (!true)) && (decide (n = 0) || false) && (same v (0, 0) || false) && (decide (t = 0) || false) && (false || decide (l.length = 0)))
      simp only [same_self, h0, hl]
      cases decide (b = 0) <;> cases decide (t = 0) <;> cases decide (n = 0) <;> cases same v (0, 0) <;> cases decide (l.length = 0) <;> rfl
    · have e : form8 (u, 8, b, t, n, v, l) = (u, 8, b, 0, n, (0, 0), []) := rfl
      rw [e, same_req]
      show (same u u && (same (8 : Int) 8 && (same b b && (same t 0 && (same n n && (same v (0, 0) && same l [])))))) = ((decide (b = 0) || true || (!true)) && (decide (n = 0) || true) && (same v (0, 0) || false) && (decide (t = 0) || false) && (false || decide (l.length = 0)))
      simp only [same_self, h0, hl]
      cases decide (b = 0) <;> cases decide (t = 0) <;> cases decide (n = 0) <;> cases same v (0, 0) <;> cases decide (l.length = 0) <;> rfl
    · have e : form8 (u, 9, b, t, n, v, l) = (u, 9, b, 0, 0, (0, 0), []) := rfl
      rw [e, same_req]
      show (same u u && (same (9 : Int) 9 && (same b b && (same t 0 && (same n 0 && (same v (0, 0) && same l [])))))) = ((decide (b = 0) || true || (!true)) && (decide (n = 0) || false) && (same v (0, 0) || false) && (decide (t = 0) || false) && (false || decide (l.length = 0)))
      simp only [same_self, h0, hl]
      cases decide (b = 0) <;> cases decide (t = 0) <;> cases decide (n = 0) <;> cases same v (0, 0) <;> cases decide (l.length = 0) <;> rfl
    · have e : form8 (u, 10, b, t, n, v, l) = (u, 10, b, 0, 0, (0, 0), []) := rfl
      rw [e, same_req]
      show (same u u && (same (10 : Int) 10 && (same b b && (same t 0 && (same n 0 && (same v (0, 0) && same l [])))))) = ((decide (b = 0) || true || (!true)) && (decide (n = 0) || false) && (same v (0, 0) || false) && (decide (t = 0) || false) && (false || decide (l.length = 0)))
      simp only [same_self, h0, hl]
      cases decide (b = 0) <;> cases decide (t = 0) <;> cases decide (n = 0) <;> cases same v (0, 0) <;> cases decide (l.length = 0) <;> rfl
    · have e : form8 (u, 11, b, t, n, v, l) = (u, 11, b, 0, 0, (0, 0), []) := rfl
      rw [e, same_req]
      show (same u u && (same (11 : Int) 11 && (same b b && (same t 0 && (same n 0 && (same v (0, 0) && same l [])))))) = ((decide (b = 0) || true || (!true)) && (decide (n = 0) || false) && (same v (0, 0) || false) && (decide (t = 0) || false) && (false || decide (l.length = 0)))
      simp only [same_self, h0, hl]
      cases decide (b = 0) <;> cases decide (t = 0) <;> cases decide (n = 0) <;> cases same v (0, 0) <;> cases decide (l.length = 0) <;> rfl
    · have e : form8 (u, 12, b, t, n, v, l) = (u, 12, b, 0, 0, (0, 0), []) := rfl
      rw [e, same_req]
      show (same u u && (same (12 : Int) 12 && (same b b && (same t 0 && (same n 0 && (same v (0, 0) && same l [])))))) = ((decide (b = 0) || true || (!true)) && (decide (n = 0) || false) && (same v (0, 0) || false) && (decide (t = 0) || false) && (false || decide (l.length = 0)))
      simp only [same_self, h0, hl]
      cases decide (b = 0) <;> cases decide (t = 0) <;> cases decide (n = 0) <;> cases same v (0, 0) <;> cases decide (l.length = 0) <;> rfl
theorem hasT_eq (k : Int) : (decide (k = 4) || decide (k = 5) || decide (k = 6)) = hasT k := by
  unfold hasT
  rw [Bool.eq_iff_iff, inq_iff]
  simp only [Bool.or_eq_true, decide_eq_true_eq]
  omega
theorem req_key (us wd sm ib nn vv k4 k5 k6 e1 it : Bool) : ((bif (bif us then false else true) then (some (false, ())) else (bif (bif wd then false else true) then (some (false, ())) else (bif (bif sm then false else true) then (some (false, ())) else (bif (bif ib then false else true) then (some (false, ())) else (bif (bif nn then false else true) then (some (false, ())) else (bif (bif vv then false else true) then (some (false, ())) else (bif k4 then (bif e1 then (some ((true == it), ())) else (some (false, ()))) else (bif k5 then (bif e1 then (some ((true == it), ())) else (some (false, ()))) else (bif e1 then (some ((k6 == it), ())) else (some (false, ()))))))))))) : Option (Bool × Unit)) = some (us && (wd && (sm && (ib && (nn && (vv && (e1 && ((k4 || k5 || k6) == it))))))), ()) := by
  cases us <;> cases wd <;> cases sm <;> cases ib <;> cases nn <;> cases vv <;> first | rfl | (cases k4 <;> cases k5 <;> cases k6 <;> cases e1 <;> cases it <;> rfl)
theorem req_two (r : MReq) : (inq r.1 1 5 && (inq r.2.1 1 12 && (same r (form8 r) && (inq r.2.2.1 0 9 && (inq r.2.2.2.2.1 0 10000 && (decOk r.2.2.2.2.2.1 && ((decide (r.2.1 = 1) == testsOk r.2.2.2.2.2.2) && (hasT r.2.1 == inq r.2.2.2.1 1 4)))))))) = reqOk r := by
  rw [form_eq]
  unfold reqOk
  have hb : decide (r.2.2.1 = 0) = true → inq r.2.2.1 0 9 = true := fun h => inq_iff.2 (by have := of_decide_eq_true h; omega)
  have hn : decide (r.2.2.2.2.1 = 0) = true → inq r.2.2.2.2.1 0 10000 = true := fun h => inq_iff.2 (by have := of_decide_eq_true h; omega)
  have hv : same r.2.2.2.2.2.1 (0, 0) = true → decOk r.2.2.2.2.2.1 = true := fun h => by rw [same_iff.1 h]; rfl
  have ht : decide (r.2.2.2.1 = 0) = true → inq r.2.2.2.1 1 4 = false := fun h => Bool.eq_false_iff.2 fun h2 => by have := inq_iff.1 h2; have := of_decide_eq_true h; omega
  have hl : decide (r.2.2.2.2.2.2.length = 0) = true → testsOk r.2.2.2.2.2.2 = false := fun h => Bool.eq_false_iff.2 fun h2 => by have := testsOk_len h2; have := of_decide_eq_true h; omega
  have g1 : ∀ b h i : Bool, (b = true → i = true) → (b || (h && i)) = ((b || h) && i) := by intro b h i hi; cases b <;> cases h <;> cases i <;> first | rfl | (have := hi rfl; cases this)
  have g2 : ∀ t h i : Bool, (t = true → i = false) → (bif h then i else t) = ((t || h) && (h == i)) := by intro t h i hi; cases t <;> cases h <;> cases i <;> first | rfl | (have := hi rfl; cases this)
  have g3 : ∀ k t l : Bool, (l = true → t = false) → (bif k then t else l) = ((k || l) && (k == t)) := by intro t h i hi; cases t <;> cases h <;> cases i <;> first | rfl | (have := hi rfl; cases this)
  rw [g1 _ _ _ hb, g1 _ _ _ hn, g1 _ _ _ hv, g2 _ _ _ ht, g3 _ _ _ hl]
  cases inq r.2.1 1 12
  · simp
  · simp only [Bool.not_true, Bool.or_false]
    generalize (decide (r.2.2.1 = 0) || hasB r.2.1) = a1
    generalize (decide (r.2.2.2.2.1 = 0) || hasN r.2.1) = a2
    generalize (same r.2.2.2.2.2.1 (0, 0) || hasV r.2.1) = a3
    generalize (decide (r.2.2.2.1 = 0) || hasT r.2.1) = a4
    generalize (decide (r.2.1 = 1) || decide (r.2.2.2.2.2.2.length = 0)) = a5
    generalize (decide (r.2.1 = 1) == testsOk r.2.2.2.2.2.2) = a6
    generalize (hasT r.2.1 == inq r.2.2.2.1 1 4) = a7
    ac_rfl
theorem s_sReqOk : C_sReqOk (fun x => smA x.1.2.2.2.2.2.2) (fun x => (reqOk x.1, ())) := S_sReqOk s_sl1In s_sl8Form s_sl8Same s_sDecOk s_sSpcTestsOk fun x hx => ⟨0, (ev_sReqOk 0 x.1).trans (by
  obtain ⟨r, u⟩ := x
  change MReq at r
  have hx : smA r.2.2.2.2.2.2 = true := hx
  rw [show reqOk (r, u).1 = reqOk r from rfl, ← req_two r, ← hasT_eq]
  simp only [cl, hx, cond_true]
  exact req_key _ _ _ _ _ _ _ _ _ _ _)⟩

end Go.Proofs.Ytjmohfahchamaaa

set_option linter.unusedVariables false
set_option linter.unusedSimpArgs false
namespace Go.Proofs.Ytjmohfahchamaaa
open Go.Vm
theorem s_lFnExactReqOk : C_lFnExactReqOk (lawPre _) (fun _ => (true, ())) := S_lFnExactReqOk s_lszReqReq s_ltoReqReq s_sReqOk s_iReqOk s_leqReqReq fun x hx => ⟨0, (ev_lFnExactReqOk 0 x.1).trans (by
  have hw := (lawPre_iff.1 hx).1
  obtain ⟨r, u⟩ := x
  change MReq at r
  have h1 : okLen (List.length r.2.2.2.2.2.2) = true := okLen_iff.2 hw.2.2.2.2.2.2.1
  have h2 : inq (1048576 : Int) 0 1048576 = true := rfl
  simp only [h1, h2, Bool.and_self, cond_true, cl]
  by_cases h : szN (List.length r.2.2.2.2.2.2) 1048576 < 0
  · simp only [decide_eq_true h, cond_true]
  · have hl := szN_small (Int.le_refl _) h
    have h3 : decide (List.length r.2.2.2.2.2.2 ≤ 4294967296) = true := decide_eq_true (Nat.le_trans hl (by decide))
    have h3' : smA r.2.2.2.2.2.2 = true := h3
    simp only [decide_eq_false h, h3, h3', same_self, beq_self_eq_true, cond_true, cond_false])⟩

end Go.Proofs.Ytjmohfahchamaaa
