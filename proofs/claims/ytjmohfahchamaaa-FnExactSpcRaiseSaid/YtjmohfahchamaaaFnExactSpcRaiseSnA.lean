/- The functions that FnExactSpcRaise reaches: what each of them answers, part 1. Conditions stand in each contract. -/
import Derived.Test.YtjmohfahchamaaaFnExactSpcRaiseEq0
import Derived.Test.YtjmohfahchamaaaMoA
set_option linter.unusedVariables false
set_option linter.unusedSimpArgs false
namespace Go.Proofs.Ytjmohfahchamaaa
open Go.Vm

theorem s_iin : C_iin (fun _ => true) (fun x => (inq x.1 x.2.1 x.2.2.1, ())) := S_iin fun x _ => ⟨0, (ev_iin 0 x.1 x.2.1 x.2.2.1).trans (by
  simp only [bif_some, bif_pair, bif_and]; rfl)⟩
theorem s_sl1In : C_sl1In (fun _ => true) (fun x => (inq x.1 x.2.1 x.2.2.1, ())) := S_sl1In fun x _ => ⟨0, (ev_sl1In 0 x.1 x.2.1 x.2.2.1).trans (by
  simp only [bif_some, bif_pair, bif_and]; rfl)⟩

/-- Ten, so many times. -/
theorem pw_step {i : Nat} (h : i < 18) : w64 ((10 : Int) ^ i * (10 : Int)) = 10 ^ (i + 1) := by
  have : (10 : Int) ^ (i + 1) ≤ 10 ^ 18 := by exact_mod_cast Nat.pow_le_pow_right (by decide) (by omega)
  have h2 : (0 : Int) < 10 ^ (i + 1) := Int.pow_pos (by decide)
  rw [← Int.pow_succ, w64_eq (by omega) (by omega)]

theorem p_ipower (n : Int) (hn : n ≤ 18) : r_ipower (n, ()) (n.toNat + 1) [false, true, false, true, true] (h0_ipower n (1 : Int) (0 : Int)) = some (pw n, ()) := by
  by_cases h0 : n ≤ 0
  · have : n.toNat = 0 := by omega
    rw [this, rd0_ipower]
    have : decide ((0 : Int) < n) = false := decide_eq_false (by omega)
    rw [this]
    show some ((1 : Int), ()) = _
    unfold pw
    rw [show n.toNat = 0 by omega]; rfl
  · have hc : (n.toNat : Int) = n := by omega
    refine count_loop (σ := Unit) n.toNat (fun k i _ => r_ipower (n, ()) k [false, true, false, true, true] (h0_ipower n ((10 : Int) ^ i) (i : Int))) (fun _ _ => (pw n, ())) (fun _ _ => True) (fun k s _ => ?_) (fun k i s hi _ => ?_) n.toNat 0 () (by omega) trivial
    · rw [rd0_ipower, show decide ((n.toNat : Int) < n) = false from decide_eq_false (by omega)]
      rfl
    · refine .inr ⟨(), trivial, ?_, rfl⟩
      rw [rd0_ipower, show decide ((i : Int) < n) = true from decide_eq_true (by omega), pw_step (by omega), w_succ (by omega)]
      rfl
theorem s_ipower : C_ipower (fun x => decide (x.1 ≤ 18)) (fun x => (pw x.1, ())) := S_ipower fun x hx => ⟨_, (ev_ipower _ x.1).trans (p_ipower x.1 (of_decide_eq_true hx))⟩
theorem p_sl1Ten (n : Int) (hn : n ≤ 18) : r_sl1Ten (n, ()) (n.toNat + 1) [false, true, false, true, true] (h0_sl1Ten n (1 : Int) (0 : Int)) = some (pw n, ()) := by
  by_cases h0 : n ≤ 0
  · have : n.toNat = 0 := by omega
    rw [this, rd0_sl1Ten]
    have : decide ((0 : Int) < n) = false := decide_eq_false (by omega)
    rw [this]
    show some ((1 : Int), ()) = _
    unfold pw
    rw [show n.toNat = 0 by omega]; rfl
  · have hc : (n.toNat : Int) = n := by omega
    refine count_loop (σ := Unit) n.toNat (fun k i _ => r_sl1Ten (n, ()) k [false, true, false, true, true] (h0_sl1Ten n ((10 : Int) ^ i) (i : Int))) (fun _ _ => (pw n, ())) (fun _ _ => True) (fun k s _ => ?_) (fun k i s hi _ => ?_) n.toNat 0 () (by omega) trivial
    · rw [rd0_sl1Ten, show decide ((n.toNat : Int) < n) = false from decide_eq_false (by omega)]
      rfl
    · refine .inr ⟨(), trivial, ?_, rfl⟩
      rw [rd0_sl1Ten, show decide ((i : Int) < n) = true from decide_eq_true (by omega), pw_step (by omega), w_succ (by omega)]
      rfl
theorem s_sl1Ten : C_sl1Ten (fun x => decide (x.1 ≤ 18)) (fun x => (pw x.1, ())) := S_sl1Ten fun x hx => ⟨_, (ev_sl1Ten _ x.1).trans (p_sl1Ten x.1 (of_decide_eq_true hx))⟩
theorem near_arith {n d : Int} (h : nrPre n d = true) (h0 : 0 ≤ n) : w64 (Int.tdiv (w64 (w64 ((2 : Int) * n) + d)) (w64 ((2 : Int) * d))) = near n d ∧ decide (w64 ((2 : Int) * d) = (0 : Int)) = false ∧ 0 ≤ near n d ∧ near n d ≤ 2000000000000000 := by
  obtain ⟨⟨h1, h2⟩, h3, h4⟩ := nrPre_iff.1 h
  have e1 : w64 ((2 : Int) * d) = 2 * d := w64_eq (by omega) (by omega)
  have e2 : w64 ((2 : Int) * n) = 2 * n := w64_eq (by omega) (by omega)
  have e3 : w64 (2 * n + d) = 2 * n + d := w64_eq (by omega) (by omega)
  have e4 : Int.tdiv (2 * n + d) (2 * d) = (2 * n + d) / (2 * d) := Int.tdiv_eq_ediv_of_nonneg (by omega)
  have a1 : 0 ≤ (2 * n + d) / (2 * d) := Int.ediv_nonneg (by omega) (by omega)
  have a2 : (2 * n + d) / (2 * d) ≤ n + d := by
    refine Int.ediv_le_of_le_mul (by omega) ?_
    have : n + d ≤ (n + d) * d := by
      have := Int.mul_le_mul_of_nonneg_left (show (1 : Int) ≤ d by omega) (show 0 ≤ n + d by omega)
      omega
    have e : (n + d) * (2 * d) = 2 * ((n + d) * d) := by rw [Int.mul_left_comm]
    omega
  have e5 : near n d = (2 * n + d) / (2 * d) := by unfold near; rw [if_neg (by omega)]
  rw [e1, e2, e3, e4, e5]
  exact ⟨w64_eq (by omega) (by omega), decide_eq_false (by omega), a1, by omega⟩

theorem near_neg {n d : Int} (h : n < 0) : near n d = -(near (-n) d) := by
  unfold near; rw [if_pos h, if_neg (by omega)]
theorem p_inearest_up {n d : Int} {g p} (h : nrPre n d = true) (h0 : 0 ≤ n) : E_inearest g p 0 (n, d, ()) = some (near n d, ()) := (ev_inearest 0 n d).trans (by
  obtain ⟨h1, h2, _⟩ := near_arith h h0
  rw [show decide (n < (0 : Int)) = false from decide_eq_false (by omega), h2, h1]
  rfl)
theorem s_inearest_up : C_inearest (fun x => nrPre x.1 x.2.1 && decide (0 ≤ x.1)) (fun x => (near x.1 x.2.1, ())) := S_inearest (S0_inearest (fn := fun _ => (0, ()))) fun x hx => ⟨0, p_inearest_up (Bool.and_eq_true_iff.1 hx).1 (of_decide_eq_true (Bool.and_eq_true_iff.1 hx).2)⟩
theorem p_inearest {n d : Int} (hx : nrPre n d = true) : E_inearest (fun x => (near x.1 x.2.1, ())) (fun x => nrPre x.1 x.2.1 && decide (0 ≤ x.1)) 0 (n, d, ()) = some (near n d, ()) := by
  obtain ⟨⟨h1, h2⟩, h3, h4⟩ := nrPre_iff.1 hx
  by_cases h0 : n < 0
  · refine (ev_inearest 0 n d).trans ?_
    have e : w64 ((0 : Int) - n) = -n := by rw [w64_eq (by omega) (by omega)]; omega
    have hp : nrPre (-n) d = true := nrPre_iff.2 ⟨⟨by omega, by omega⟩, h3, h4⟩
    obtain ⟨_, _, g1, g2⟩ := near_arith hp (by omega)
    rw [show decide (n < (0 : Int)) = true from decide_eq_true h0, e]
    simp only [cond_true, hp, show decide (0 ≤ -n) = true from decide_eq_true (by omega), Bool.and_self]
    rw [near_neg h0, show w64 ((0 : Int) - near (-n) d) = -near (-n) d from by rw [w64_eq (by omega) (by omega)]; omega]
  · exact p_inearest_up hx (by omega)
theorem s_inearest : C_inearest (fun x => nrPre x.1 x.2.1) (fun x => (near x.1 x.2.1, ())) := S_inearest s_inearest_up fun x hx => ⟨0, p_inearest hx⟩
theorem p_sl1Near_up {n d : Int} {g p} (h : nrPre n d = true) (h0 : 0 ≤ n) : E_sl1Near g p 0 (n, d, ()) = some (near n d, ()) := (ev_sl1Near 0 n d).trans (by
  obtain ⟨h1, h2, _⟩ := near_arith h h0
  rw [show decide (n < (0 : Int)) = false from decide_eq_false (by omega), h2, h1]
  rfl)
theorem s_sl1Near_up : C_sl1Near (fun x => nrPre x.1 x.2.1 && decide (0 ≤ x.1)) (fun x => (near x.1 x.2.1, ())) := S_sl1Near (S0_sl1Near (fn := fun _ => (0, ()))) fun x hx => ⟨0, p_sl1Near_up (Bool.and_eq_true_iff.1 hx).1 (of_decide_eq_true (Bool.and_eq_true_iff.1 hx).2)⟩
theorem p_sl1Near {n d : Int} (hx : nrPre n d = true) : E_sl1Near (fun x => (near x.1 x.2.1, ())) (fun x => nrPre x.1 x.2.1 && decide (0 ≤ x.1)) 0 (n, d, ()) = some (near n d, ()) := by
  obtain ⟨⟨h1, h2⟩, h3, h4⟩ := nrPre_iff.1 hx
  by_cases h0 : n < 0
  · refine (ev_sl1Near 0 n d).trans ?_
    have e : w64 ((0 : Int) - n) = -n := by rw [w64_eq (by omega) (by omega)]; omega
    have hp : nrPre (-n) d = true := nrPre_iff.2 ⟨⟨by omega, by omega⟩, h3, h4⟩
    obtain ⟨_, _, g1, g2⟩ := near_arith hp (by omega)
    rw [show decide (n < (0 : Int)) = true from decide_eq_true h0, e]
    simp only [cond_true, hp, show decide (0 ≤ -n) = true from decide_eq_true (by omega), Bool.and_self]
    rw [near_neg h0, show w64 ((0 : Int) - near (-n) d) = -near (-n) d from by rw [w64_eq (by omega) (by omega)]; omega]
  · exact p_sl1Near_up hx (by omega)
theorem s_sl1Near : C_sl1Near (fun x => nrPre x.1 x.2.1) (fun x => (near x.1 x.2.1, ())) := S_sl1Near s_sl1Near_up fun x hx => ⟨0, p_sl1Near hx⟩

end Go.Proofs.Ytjmohfahchamaaa

set_option linter.unusedVariables false
set_option linter.unusedSimpArgs false
namespace Go.Proofs.Ytjmohfahchamaaa
open Go.Vm

theorem s_iDecOk : C_iDecOk (fun _ => true) (fun x => (decOk x.1, ())) := S_iDecOk s_iin s_ipower fun x _ => ⟨0, (ev_iDecOk 0 x.1).trans (p_decOk x.1)⟩
theorem s_sDecOk : C_sDecOk (fun _ => true) (fun x => (decOk x.1, ())) := S_sDecOk s_sl1In s_sl1Ten fun x _ => ⟨0, (ev_sDecOk 0 x.1).trans (p_decOk x.1)⟩
theorem s_iDecAt : C_iDecAt (fun _ => true) (fun x => (decAt x.1 x.2.1, ())) := S_iDecAt s_iDecOk s_iin s_ipower s_inearest fun x _ => ⟨0, (ev_iDecAt 0 x.1 x.2.1).trans (p_decAt x.1 x.2.1 _ fun h1 h2 => p_atR h1 h2)⟩
theorem s_sl1At : C_sl1At (fun x => decOk x.1 && inq x.2.1 0 3) (fun x => (atR x.1 x.2.1, ())) := S_sl1At s_sl1Ten s_sl1Near fun x hx => ⟨0, (ev_sl1At 0 x.1 x.2.1).trans (p_atR (Bool.and_eq_true_iff.1 hx).1 (Bool.and_eq_true_iff.1 hx).2)⟩
theorem s_gisNaN_int : C_gisNaN_int (fun _ => true) (fun _ => (false, ())) := S_gisNaN_int fun x _ => ⟨0, (ev_gisNaN_int 0 x.1).trans (by
  rw [decide_eq_true rfl]; rfl)⟩
theorem s_gCompare_int : C_gCompare_int (fun _ => true) (fun x => (cmpI x.1 x.2.1, ())) := S_gCompare_int s_gisNaN_int fun x _ => ⟨0, (ev_gCompare_int 0 x.1 x.2.1).trans (p_cmpI x.1 x.2.1)⟩
theorem s_iDecCmp : C_iDecCmp (fun _ => true) (fun x => (decCmp x.1 x.2.1, ())) := S_iDecCmp s_iDecOk s_iDecAt s_gCompare_int fun x _ => ⟨0, (ev_iDecCmp 0 x.1 x.2.1).trans (p_decCmp x.1 x.2.1 _ fun h1 h2 => by
  unfold decAt
  simp only [h1, h2, in03, Bool.and_self, cond_true])⟩
theorem s_sDecCmp : C_sDecCmp (fun _ => true) (fun x => (decCmp x.1 x.2.1, ())) := S_sDecCmp s_sDecOk s_sl1At fun x _ => ⟨0, (ev_sDecCmp 0 x.1 x.2.1).trans (p_decCmp x.1 x.2.1 _ fun h1 h2 => by
  simp only [h1, h2, in03, Bool.and_self, cond_true]
  exact p_cmpI _ _)⟩
theorem s_iisTest : C_iisTest (fun _ => true) (fun x => (inq x.1 1 4, ())) := S_iisTest s_iin fun x _ => ⟨0, ev_iisTest 0 x.1⟩
theorem s_iSpcTest_ok : C_iSpcTest_ok (fun _ => true) (fun x => (askOk x.1, ())) := S_iSpcTest_ok s_iisTest s_iDecOk s_iDecCmp s_iin fun x _ => ⟨0, (ev_iSpcTest_ok 0 x.1).trans (by
  simp only [bif_some, bif_pair, bif_and]; rfl)⟩
theorem s_sl3Test : C_sl3Test (fun _ => true) (fun x => (askOk x.1, ())) := S_sl3Test s_sl1In s_sDecOk s_sDecCmp fun x _ => ⟨0, (ev_sl3Test 0 x.1).trans (by
  simp only [bif_some, bif_pair, bif_and]; rfl)⟩
end Go.Proofs.Ytjmohfahchamaaa

set_option linter.unusedVariables false
set_option linter.unusedSimpArgs false
namespace Go.Proofs.Ytjmohfahchamaaa
open Go.Vm

theorem s_ltoDecDec : C_ltoDecDec (fun _ => true) (fun x => (x.1, ())) := S_ltoDecDec fun x _ => ⟨0, ev_ltoDecDec 0 x.1⟩
theorem s_ltoSpcTest : C_ltoSpcTest (fun _ => true) (fun x => (x.1, ())) := S_ltoSpcTest s_ltoDecDec fun x _ => ⟨0, ev_ltoSpcTest 0 x.1⟩

theorem p_iSpcTestsOk (xs : List MAsk) (hx : xs.length ≤ 4294967296) : r_iSpcTestsOk (fun x => (askOk x.1, ())) (fun x => (inq x.1 x.2.1 x.2.2.1, ())) (xs, ()) (xs.length + 1) [false, true, false, true] (h0_iSpcTestsOk xs (xs.length : Int) ((0 : Nat) : Int)) = some (asksOk none xs && inq xs.length 1 4, ()) := by
  refine asks_loop xs hx (inq xs.length 1 4) (fun k i => r_iSpcTestsOk (fun x => (askOk x.1, ())) (fun x => (inq x.1 x.2.1 x.2.2.1, ())) (xs, ()) k [false, true, false, true] (h0_iSpcTestsOk xs (xs.length : Int) (i : Int))) (fun k => ?_) (fun k i x r hd hi => ?_)
  · rw [rd0_iSpcTestsOk, lt_false (Nat.le_refl _)]; rfl
  · rw [rd0_iSpcTestsOk, in_true hi, lt_true hi, w_succ (by omega)]
    exact asks_step hx hd hi _ (fun j => rdL (e := S_SpcTest) xs j) (fun j hj => rd_asks j hj)
theorem s_iSpcTestsOk : C_iSpcTestsOk (fun x => decide (List.length x.1 ≤ 4294967296)) (fun x => (testsOk x.1, ())) := S_iSpcTestsOk s_iSpcTest_ok s_iin fun x hx => ⟨_, (ev_iSpcTestsOk _ x.1).trans ((p_iSpcTestsOk x.1 (of_decide_eq_true hx)).trans (by
  unfold testsOk; rw [Bool.and_comm]))⟩

theorem p_sSpcTestsOk (xs : List MAsk) (hx : xs.length ≤ 4294967296) : r_sSpcTestsOk (fun x => (inq x.1 x.2.1 x.2.2.1, ())) (fun x => (askOk x.1, ())) (xs, ()) (xs.length + 1) [false, true, false, true, true] (h0_sSpcTestsOk xs ((0 : Nat) : Int)) = some (asksOk none xs && true, ()) := by
  refine asks_loop xs hx true (fun k i => r_sSpcTestsOk (fun x => (inq x.1 x.2.1 x.2.2.1, ())) (fun x => (askOk x.1, ())) (xs, ()) k [false, true, false, true, true] (h0_sSpcTestsOk xs (i : Int))) (fun k => ?_) (fun k i x r hd hi => ?_)
  · rw [rd0_sSpcTestsOk, lt_false (Nat.le_refl _)]; rfl
  · rw [rd0_sSpcTestsOk, in_true hi, lt_true hi, w_succ (by omega)]
    exact asks_step hx hd hi _ (fun j => rdL (e := S_SpcTest) xs j) (fun j hj => rd_asks j hj)
theorem s_sSpcTestsOk : C_sSpcTestsOk (fun _ => true) (fun x => (testsOk x.1, ())) := S_sSpcTestsOk s_sl1In s_sl3Test fun x _ => ⟨List.length x.1 + 1, (ev_sSpcTestsOk _ x.1).trans (by
  unfold testsOk
  cases h : inq (List.length x.1) 1 4
  · rfl
  · have := inq_iff.1 h
    refine (p_sSpcTestsOk x.1 (by omega)).trans ?_
    rw [Bool.and_true]; rfl)⟩

theorem s_lszSpcTestS : C_lszSpcTestS (fun x => okLen (List.length x.1) && inq x.2.1 0 1048576) (fun x => (if x.2.1 < (List.length x.1 : Int) then -1 else x.2.1 - (List.length x.1 : Int), ())) := S_lszSpcTestS fun x hx => ⟨0, (ev_lszSpcTestS 0 x.1 x.2.1).trans (by
  have key : ∀ (n : Nat) (l : Int), n ≤ 9223372036854775807 → 0 ≤ l → l ≤ 1048576 → (bif (decide ((w64 (l - (n : Int))) < (0 : Int))) then (some ((-1 : Int), ())) else (some ((w64 (l - (n : Int))), ()))) = some (if l < (n : Int) then -1 else l - (n : Int), ()) := fun n l h1 h2 h3 => by
    rw [w64_eq (by omega) (by omega)]
    by_cases h : l < n
    · rw [if_pos h, decide_eq_true (by omega)]; rfl
    · rw [if_neg h, decide_eq_false (by omega)]; rfl
  have h := Bool.and_eq_true_iff.1 hx
  have h2 := inq_iff.1 h.2
  exact key _ _ (okLen_iff.1 h.1) h2.1 h2.2)⟩

theorem p_make {n : Nat} {α : Type} {X : Option α} (h : n ≤ 4294967296) : (bif (bif (bif (decide ((0 : Int) ≤ (n : Int))) then (decide ((n : Int) ≤ (BIG : Int))) else false) then (decide ((n : Int) = (n : Int))) else false) then X else none) = X := by
  rw [decide_eq_true (show (0 : Int) ≤ (n : Int) by omega), decide_eq_true (show (n : Int) ≤ (BIG : Int) by show (n : Int) ≤ ((4294967296 : Nat) : Int); omega), decide_eq_true rfl]; rfl

theorem s_ltoSpcTestS : C_ltoSpcTestS (fun x => decide (List.length x.1 ≤ 4294967296)) (fun x => (x.1, ())) := S_ltoSpcTestS s_ltoSpcTest fun x hx => ⟨List.length x.1 + 1, (ev_ltoSpcTestS _ x.1).trans (by
  have hx : List.length x.1 ≤ 4294967296 := of_decide_eq_true hx
  rw [p_make hx]
  refine (map_loop (α := MAsk) x.1 (fun y => y) (fun k i out => r_ltoSpcTestS (fun x => (x.1, ())) (x.1, ()) k [false, true, false, true, true] (h0_ltoSpcTestS x.1 (i : Int) out)) (fun k out ho => ?_) (fun k i y r out hd hi ho => ?_) _ ?_).trans ?_
  · rw [rd0_ltoSpcTestS, lt_false (Nat.le_refl _)]; rfl
  · rw [rd0_ltoSpcTestS, in_true hi, in_true (ho.symm ▸ hi), lt_true hi, w_succ (by omega), Int.toNat_natCast, rdL_drop hd]; rfl
  · rw [List.length_replicate]; exact Int.toNat_natCast _
  · rw [List.map_id'])⟩

theorem s_leqDecDec : C_leqDecDec (fun _ => true) (fun x => (same x.1 x.2.1, ())) := S_leqDecDec fun x _ => ⟨0, (ev_leqDecDec 0 x.1 x.2.1).trans (by
  simp only [bif_not, bif_neg, bif_some, bif_pair, bif_and, same_int, Bool.and_true]
  exact congrArg (fun b => some (b, ())) (same_pair _ _ _ _))⟩
theorem s_leqSpcTest : C_leqSpcTest (fun _ => true) (fun x => (same x.1 x.2.1, ())) := S_leqSpcTest s_leqDecDec fun x _ => ⟨0, (ev_leqSpcTest 0 x.1 x.2.1).trans (by
  simp only [bif_not, bif_neg, bif_some, bif_pair, bif_and, same_int, Bool.and_true]
  refine congrArg (fun b => some (b, ())) ?_
  rw [same_pair, same_pair, same_pair])⟩

/-- Two rows of one length, and the loop over them. -/
theorem p_eqS {α : Type} {xs ys : List α} {X : Option (Bool × Unit)} (h : xs.length = ys.length → X = some (same xs ys, ())) : (bif (bif (decide ((xs.length : Int) = (ys.length : Int))) then false else true) then (some (false, ())) else X) = some (same xs ys, ()) := by
  by_cases hl : xs.length = ys.length
  · rw [decide_eq_true (by omega)]; exact h hl
  · rw [decide_eq_false (by omega), same_false fun e => hl (by rw [e])]; rfl

theorem s_leqSpcTestS : C_leqSpcTestS (fun x => decide (List.length x.1 ≤ 4294967296)) (fun x => (same x.1 x.2.1, ())) := S_leqSpcTestS s_leqSpcTest fun x hx => ⟨List.length x.1 + 1, (ev_leqSpcTestS _ x.1 x.2.1).trans (p_eqS fun hl => by
  have hx : List.length x.1 ≤ 4294967296 := of_decide_eq_true hx
  refine eq_loop (α := MAsk) x.1 x.2.1 hl (fun k i => r_leqSpcTestS (fun x => (same x.1 x.2.1, ())) (x.1, x.2.1, ()) k [false, true, false, true, true] (h0_leqSpcTestS x.1 x.2.1 (i : Int))) (fun k => ?_) (fun k i y z r r' hd hd' hi hi' => ?_)
  · rw [rd0_leqSpcTestS, lt_false (Nat.le_refl _)]; rfl
  · rw [rd0_leqSpcTestS, in_true hi, in_true hi', lt_true hi, w_succ (by omega), rdL_drop hd, rdL_drop hd', bif_not, bif_neg]; rfl)⟩

end Go.Proofs.Ytjmohfahchamaaa

set_option linter.unusedVariables false
set_option linter.unusedSimpArgs false
namespace Go.Proofs.Ytjmohfahchamaaa
open Go.Vm

theorem s_lszSpcSpec : C_lszSpcSpec (fun x => okLen (List.length x.1.1) && inq x.2.1 0 1048576) (fun x => (szSpc x.1 x.2.1, ())) := S_lszSpcSpec s_lszSpcTestS fun x hx => ⟨0, (ev_lszSpcSpec 0 x.1 x.2.1).trans (by
  have hx : (okLen (List.length x.1.1) && inq x.2.1 0 1048576) = true := hx
  simp only [hx, cond_true]
  have key : ∀ (s : MSpc) (l : Int), 0 ≤ l → (bif decide ((if l < (s.1.length : Int) then -1 else l - (s.1.length : Int)) < (0 : Int)) then (some ((-1 : Int), ())) else (some ((if l < (s.1.length : Int) then -1 else l - (s.1.length : Int)), ()))) = some (szSpc s l, ()) := fun s l h => by
    unfold szSpc szAsk
    by_cases h1 : l < (s.1.length : Int)
    · rw [if_pos h1]; rfl
    · rw [if_neg h1, decide_eq_false (by omega)]; rfl
  exact key x.1 x.2.1 (inq_iff.1 (Bool.and_eq_true_iff.1 hx).2).1)⟩

/-- Lists that came in. -/
def wfSpcs (l : List MSpc) : Bool := okLen l.length && l.all (fun s => okLen s.1.length)
theorem s_lszSpcSpecS : C_lszSpcSpecS (fun x => wfSpcs x.1 && inq x.2.1 0 1048576) (fun x => (szList szSpc x.1 x.2.1, ())) := S_lszSpcSpecS s_lszSpcSpec fun x hx => ⟨List.length x.1 + 1, (ev_lszSpcSpecS _ x.1 x.2.1).trans (by
  obtain ⟨h1, h2⟩ := Bool.and_eq_true_iff.1 hx
  obtain ⟨h3, h4⟩ := Bool.and_eq_true_iff.1 h1
  obtain ⟨h5, h6⟩ := inq_iff.1 h2
  have h4 : ∀ s ∈ (x.1 : List MSpc), okLen s.1.length = true := fun s hs => List.all_eq_true.1 h4 s hs
  refine p_sz0 (okLen_iff.1 h3) h5 h6 fun hle => ?_
  have key : ∀ (xs : List MSpc) (l l0 : Int), xs.length ≤ 1048576 → 0 ≤ l → l ≤ 1048576 → (∀ s ∈ xs, okLen s.1.length = true) → r_lszSpcSpecS (fun x => (szSpc x.1 x.2.1, ())) (fun x => okLen (List.length x.1.1) && inq x.2.1 0 1048576) (xs, l0, ()) (xs.length + 1) [false, true, false, true, true, true] (h0_lszSpcSpecS xs l0 l ((0 : Nat) : Int)) = some (szGo szSpc xs l, ()) := fun xs l l0 hx h0 h1 hm => by
    refine sz_loop xs szSpc (fun s l h => szAsk_le _ _ h) (fun k i l => r_lszSpcSpecS _ _ (xs, l0, ()) k [false, true, false, true, true, true] (h0_lszSpcSpecS xs l0 l (i : Int))) (fun k l => ?_) (fun k i y r l hd hi g0 g1 => ?_) l h0 h1
    · rw [rd0_lszSpcSpecS, lt_false (Nat.le_refl _)]; rfl
    · rw [rd0_lszSpcSpecS, in_true hi, lt_true hi, w_succ (by omega), rdL_drop hd]
      have : (okLen (List.length y.1) && inq l 0 1048576) = true := Bool.and_eq_true_iff.2 ⟨hm y (mem_drop hd), inq_iff.2 ⟨g0, g1⟩⟩
      simp only [this, cond_true]
  have e : w64 ((x.2.1 : Int) - ((List.length x.1 : Nat) : Int)) = x.2.1 - ((List.length x.1 : Nat) : Int) := w64_eq (Int.le_trans (by decide) (Int.sub_nonneg.2 hle)) (Int.le_trans (Int.sub_le_self _ (Int.natCast_nonneg _)) (Int.le_trans h6 (by decide)))
  rw [e]
  exact key x.1 _ x.2.1 (Int.ofNat_le.1 (show ((List.length x.1 : Nat) : Int) ≤ ((1048576 : Nat) : Int) from Int.le_trans hle h6)) (Int.sub_nonneg.2 hle) (Int.le_trans (Int.sub_le_self _ (Int.natCast_nonneg _)) h6) h4)⟩

theorem s_ltoSpcSpec : C_ltoSpcSpec (fun x => smA x.1.1) (fun x => (x.1, ())) := S_ltoSpcSpec s_ltoSpcTestS fun x hx => ⟨0, (ev_ltoSpcSpec 0 x.1).trans (by
  have hx : decide (List.length x.1.1 ≤ 4294967296) = true := hx
  rw [hx]; rfl)⟩
theorem s_ltoSpcSpecS : C_ltoSpcSpecS (fun x => smS x.1) (fun x => (x.1, ())) := S_ltoSpcSpecS s_ltoSpcSpec fun x hx => ⟨List.length x.1 + 1, (ev_ltoSpcSpecS _ x.1).trans (by
  obtain ⟨h1, h2⟩ := smS_iff.1 hx
  have h1 : List.length x.1 ≤ 4294967296 := h1
  rw [p_make h1]
  refine (map_loop (α := MSpc) x.1 (fun y => y) (fun k i out => r_ltoSpcSpecS (fun x => (x.1, ())) (fun x => smA x.1.1) (x.1, ()) k [false, true, false, true, true] (h0_ltoSpcSpecS x.1 (i : Int) out)) (fun k out ho => ?_) (fun k i y r out hd hi ho => ?_) _ ?_).trans ?_
  · rw [rd0_ltoSpcSpecS, lt_false (Nat.le_refl _)]; rfl
  · have h3 : smA y.1 = true := decide_eq_true (h2 y (mem_drop hd))
    rw [rd0_ltoSpcSpecS, in_true hi, in_true (ho.symm ▸ hi), lt_true hi, w_succ (by omega), Int.toNat_natCast, rdL_drop hd]
    simp only [h3, cond_true]
  · rw [List.length_replicate]; exact Int.toNat_natCast _
  · rw [List.map_id'])⟩

theorem s_leqSpcSpec : C_leqSpcSpec (fun x => smA x.1.1) (fun x => (same x.1 x.2.1, ())) := S_leqSpcSpec s_leqSpcTestS fun x hx => ⟨0, (ev_leqSpcSpec 0 x.1 x.2.1).trans (by
  have hx : decide (List.length x.1.1 ≤ 4294967296) = true := hx
  rw [hx]
  simp only [cond_true, bif_not, bif_neg, bif_some, bif_pair, bif_and, same_int, Bool.and_true]
  exact congrArg (fun b => some (b, ())) (same_pair _ _ _ _))⟩
theorem s_leqSpcSpecS : C_leqSpcSpecS (fun x => smS x.1) (fun x => (same x.1 x.2.1, ())) := S_leqSpcSpecS s_leqSpcSpec fun x hx => ⟨List.length x.1 + 1, (ev_leqSpcSpecS _ x.1 x.2.1).trans (p_eqS fun hl => by
  obtain ⟨h1, h2⟩ := smS_iff.1 hx
  have h1 : List.length x.1 ≤ 4294967296 := h1
  refine eq_loop (α := MSpc) x.1 x.2.1 hl (fun k i => r_leqSpcSpecS (fun x => (same x.1 x.2.1, ())) (fun x => smA x.1.1) (x.1, x.2.1, ()) k [false, true, false, true, true] (h0_leqSpcSpecS x.1 x.2.1 (i : Int))) (fun k => ?_) (fun k i y z r r' hd hd' hi hi' => ?_)
  · rw [rd0_leqSpcSpecS, lt_false (Nat.le_refl _)]; rfl
  · have h3 : smA y.1 = true := decide_eq_true (h2 y (mem_drop hd))
    rw [rd0_leqSpcSpecS, in_true hi, in_true hi', lt_true hi, w_succ (by omega), rdL_drop hd, rdL_drop hd']
    simp only [h3, cond_true, bif_not, bif_neg])⟩

theorem p_sSpcOk (xs : List MSpc) (hx : xs.length ≤ 4294967296) : r_sSpcOk (fun x => (testsOk x.1, ())) (fun x => (inq x.1 x.2.1 x.2.2.1, ())) (xs, ()) (xs.length + 1) [false, true, false, true, true, true] (h0_sSpcOk xs 0 ((0 : Nat) : Int)) = some (xs.all spcOk1 && decide (force xs ≤ 1), ()) := by
  refine spcs_loop xs hx (fun c => decide (c ≤ 1)) (fun k i c => r_sSpcOk (fun x => (testsOk x.1, ())) (fun x => (inq x.1 x.2.1 x.2.2.1, ())) (xs, ()) k [false, true, false, true, true, true] (h0_sSpcOk xs c (i : Int))) (fun k c => ?_) (fun k i x r c hd hi h0 h1 => ?_)
  · rw [rd0_sSpcOk, lt_false (Nat.le_refl _)]; rfl
  · rw [rd0_sSpcOk, in_true hi, lt_true hi, w_succ (by omega), rdL_drop hd, w64_eq (x := c + 1) (by omega) (by omega)]
    unfold spcOk1
    cases testsOk x.1 <;> cases inq x.2 1 3 <;> rfl
theorem s_sSpcOk : C_sSpcOk (fun _ => true) (fun x => (spcsOk x.1, ())) := S_sSpcOk s_sSpcTestsOk s_sl1In fun x hx => ⟨List.length x.1 + 1, (ev_sSpcOk _ x.1).trans (by
  have key : ∀ xs : List MSpc, (bif decide ((6 : Int) < (xs.length : Int)) then some (false, ()) else r_sSpcOk (fun x => (testsOk x.1, ())) (fun x => (inq x.1 x.2.1 x.2.2.1, ())) (xs, ()) (xs.length + 1) [false, true, false, true, true, true] (h0_sSpcOk xs 0 ((0 : Nat) : Int))) = some (spcsOk xs, ()) := fun xs => by
    unfold spcsOk
    by_cases h : (6 : Int) < (xs.length : Int)
    · rw [decide_eq_true h, decide_eq_false (by omega)]; rfl
    · rw [decide_eq_false h, decide_eq_true (by omega)]; exact p_sSpcOk xs (by omega)
  exact key x.1)⟩
theorem p_iSpcOk (xs : List MSpc) (hx : xs.length ≤ 4294967296) (hs : ∀ s ∈ xs, s.1.length ≤ 4294967296) : r_iSpcOk (fun x => (testsOk x.1, ())) (fun x => decide (List.length x.1 ≤ 4294967296)) (fun x => (inq x.1 x.2.1 x.2.2.1, ())) (xs, ()) (xs.length + 1) [false, true, false, true, true] (h0_iSpcOk xs 0 (xs.length : Int) ((0 : Nat) : Int)) = some (xs.all spcOk1 && (decide (xs.length ≤ 6) && decide (force xs ≤ 1)), ()) := by
  refine spcs_loop xs hx (fun c => decide (xs.length ≤ 6) && decide (c ≤ 1)) (fun k i c => r_iSpcOk (fun x => (testsOk x.1, ())) (fun x => decide (List.length x.1 ≤ 4294967296)) (fun x => (inq x.1 x.2.1 x.2.2.1, ())) (xs, ()) k [false, true, false, true, true] (h0_iSpcOk xs c (xs.length : Int) (i : Int))) (fun k c => ?_) (fun k i x r c hd hi h0 h1 => ?_)
  · rw [rd0_iSpcOk, lt_false (Nat.le_refl _)]
    by_cases h : xs.length ≤ 6
    · rw [decide_eq_true h, decide_eq_true (show ((xs.length : Int)) ≤ 6 by omega)]; rfl
    · rw [decide_eq_false h, decide_eq_false (show ¬ ((xs.length : Int)) ≤ 6 by omega)]; rfl
  · have h3 : decide (x.1.length ≤ 4294967296) = true := decide_eq_true (hs x (mem_drop hd))
    rw [rd0_iSpcOk, in_true hi, lt_true hi, w_succ (by omega), rdL_drop hd, w64_eq (x := c + 1) (by omega) (by omega)]
    simp only [h3]
    unfold spcOk1
    cases testsOk x.1 <;> cases inq x.2 1 3 <;> rfl
theorem s_iSpcOk : C_iSpcOk (fun x => smS x.1) (fun x => (spcsOk x.1, ())) := S_iSpcOk s_iSpcTestsOk s_iin fun x hx => ⟨_, (ev_iSpcOk _ x.1).trans ((p_iSpcOk x.1 (smS_iff.1 hx).1 (smS_iff.1 hx).2).trans (by
  unfold spcsOk; rw [Bool.and_left_comm]))⟩

end Go.Proofs.Ytjmohfahchamaaa

set_option linter.unusedVariables false
set_option linter.unusedSimpArgs false
namespace Go.Proofs.Ytjmohfahchamaaa
open Go.Vm

theorem beq_dec (a b : MDec) : Sh.beq S_DecDec a b = same a b := by
  show (decide (a.1 = b.1) && decide (a.2 = b.2)) = _
  rw [same_int, same_int, same_pair]

end Go.Proofs.Ytjmohfahchamaaa

set_option linter.unusedVariables false
set_option linter.unusedSimpArgs false
namespace Go.Proofs.Ytjmohfahchamaaa
open Go.Vm

theorem rdLmore {l : List MDec} (h : l ≠ []) : rdL (e := S_DecDec) l (0 : Int) = l.getD 0 (0, 0) := rfl
theorem head_ok {l : List MDec} (h : l ≠ []) (ho : l.all decOk = true) : decOk (l.getD 0 (0, 0)) = true := by
  cases l with
  | nil => exact absurd rfl h
  | cons d r => exact List.all_eq_true.1 ho d List.mem_cons_self
theorem tlPre_iff {t : MTst} : tlPre t = true ↔ tsPre t = true ∧ (t.2.2.2.1 = 1 → t.2.2.2.2 ≠ []) := by
  unfold tlPre
  simp only [Bool.and_eq_true, Bool.or_eq_true, Bool.not_eq_true', decide_eq_false_iff_not, List.isEmpty_eq_false_iff]
  exact ⟨fun h => ⟨h.1, fun e => h.2.resolve_left (fun hn => hn e)⟩, fun h => ⟨h.1, Classical.or_iff_not_imp_left.2 fun hn => h.2 (Classical.not_not.1 hn)⟩⟩
theorem in0_ne {l : List MDec} (h : l ≠ []) : (bif (decide ((0 : Int) ≤ (0 : Int))) then (decide ((0 : Int) < (l.length : Int))) else false) = true := by
  have : 0 < l.length := List.length_pos_iff.2 h
  exact in_true (i := 0) this

theorem p_tell {t : MTst} (h : tlPre t = true) (A B C : Option (MDec × Unit)) (hA : t.2.2.2.2 ≠ [] → A = some (decAt (t.2.2.2.2.getD 0 (0, 0)) t.1.2.2.2, ())) (hB : B = some (decMean (t.2.2.1 :: t.2.2.2.2) t.1.2.2.2, ())) (hC : C = some (decAt t.2.2.1 t.1.2.2.2, ())) :
    (bif (decide (t.2.2.2.1 = (1 : Int))) then (bif (bif (decide ((0 : Int) ≤ (0 : Int))) then (decide ((0 : Int) < (t.2.2.2.2.length : Int))) else false) then A else none) else (bif (decide (t.2.2.2.1 = (2 : Int))) then (bif (fitL [t.2.2.1] t.2.2.2.2) then B else none) else C)) = some (tell t, ()) := by
  obtain ⟨h1, h2⟩ := tlPre_iff.1 h
  obtain ⟨_, _, _, h3⟩ := tsPre_iff.1 h1
  unfold tell
  by_cases c1 : t.2.2.2.1 = 1
  · rw [decide_eq_true c1, if_pos c1, in0_ne (h2 c1), hA (h2 c1)]; rfl
  · rw [decide_eq_false c1, if_neg c1]
    by_cases c2 : t.2.2.2.1 = 2
    · rw [decide_eq_true c2, if_pos c2, fitL_eq (by simp; omega), hB]; rfl
    · rw [decide_eq_false c2, if_neg c2, hC]; rfl

theorem tl_of {t : MTst} (h : tsPre t = true) (hn : ¬ (t.2.2.2.2.length : Int) < need t.2.2.2.1) : tlPre t = true := by
  refine tlPre_iff.2 ⟨h, fun e hne => ?_⟩
  rw [hne, e] at hn
  exact hn (by decide)

theorem p_state {t : MTst} (A : Option (Int × Unit)) (h3 : t.2.2.2.1 ≠ 3) (hA : ¬ (t.2.2.2.2.length : Int) < need t.2.2.2.1 → A = some (if passes t = true then 3 else 4, ())) (h0 : t.2.2.2.1 ≠ 0) :
    (bif (decide ((t.2.2.2.2.length : Int) < need t.2.2.2.1)) then (some ((2 : Int), ())) else A) = some (stateOf t, ()) := by
  unfold stateOf
  rw [if_neg h0, if_neg h3]
  by_cases hn : (t.2.2.2.2.length : Int) < need t.2.2.2.1
  · rw [decide_eq_true hn, if_pos hn]; rfl
  · rw [decide_eq_false hn, if_neg hn, hA hn]; rfl

theorem p_okB (t : MTst) (A : Option (Bool × Unit)) (hA : t.2.1 ≠ 0 → A = some (decide (t.2.1 = stateOf t) && (decide (t.2.2.2.1 = 0) || !spcIn t.1 t.2.2.1), ())) :
    (bif (decide (t.2.1 = (0 : Int))) then (bif (Sh.beq S_DecDec t.2.2.1 ((0 : Int), (0 : Int))) then (some ((decide (t.2.2.2.1 = (0 : Int))), ())) else (some (false, ()))) else A) = some (tstOkB t, ()) := by
  rw [beq_dec]
  unfold tstOkB
  by_cases h : t.2.1 = 0
  · rw [decide_eq_true h]
    cases same t.2.2.1 ((0 : Int), (0 : Int)) <;> rfl
  · rw [decide_eq_false h, hA h]; rfl
theorem p_okB2 (t : MTst) : (bif (decide (t.2.1 = stateOf t)) then (bif (decide (t.2.2.2.1 = (0 : Int))) then (some (true, ())) else (some ((bif spcIn t.1 t.2.2.1 then false else true), ()))) else (some (false, ()))) = some (decide (t.2.1 = stateOf t) && (decide (t.2.2.2.1 = 0) || !spcIn t.1 t.2.2.1), ()) := by
  cases decide (t.2.1 = stateOf t) <;> cases decide (t.2.2.2.1 = 0) <;> cases spcIn t.1 t.2.2.1 <;> rfl
theorem p_tstTell (t : MTst) (A : Option (MDec × Bool × Unit)) (hA : tstOk t = true → (t.2.1 = 3 ∨ t.2.1 = 4) → A = some (tell t, true, ())) :
    (bif (bif tstOk t then false else true) then (some (((0 : Int), (0 : Int)), (false, ()))) else (bif (bif (decide (t.2.1 = (3 : Int))) then false else true) then (bif (bif (decide (t.2.1 = (4 : Int))) then false else true) then (some (((0 : Int), (0 : Int)), (false, ()))) else A) else A)) =
    some (bif tstOk t && (decide (t.2.1 = 3) || decide (t.2.1 = 4)) then (tell t, true, ()) else ((0, 0), false, ())) := by
  cases h : tstOk t
  · rfl
  · by_cases h3 : t.2.1 = 3
    · rw [decide_eq_true h3, hA h (.inl h3)]; rfl
    · by_cases h4 : t.2.1 = 4
      · rw [decide_eq_true h4, decide_eq_false h3, hA h (.inr h4)]; rfl
      · rw [decide_eq_false h4, decide_eq_false h3]; rfl
/-- A test that is settled can be told. -/
theorem settled_tl {t : MTst} (h : tstOk t = true) (hs : t.2.1 = 3 ∨ t.2.1 = 4) : tlPre t = true := by
  unfold tstOk at h
  obtain ⟨hA, hB⟩ := Bool.and_eq_true_iff.1 h
  have hp := tsPre_of hA
  have h0 : t.2.1 ≠ 0 := by omega
  unfold tstOkB at hB
  rw [decide_eq_false h0, cond_false, Bool.and_eq_true] at hB
  have he : t.2.1 = stateOf t := of_decide_eq_true hB.1
  refine tlPre_iff.2 ⟨hp, fun c1 hne => ?_⟩
  unfold stateOf at he
  rw [c1, hne] at he
  simp only [List.length_nil, if_neg (show ¬ (1 : Int) = 0 by decide), if_neg (show ¬ (1 : Int) = 3 by decide), need, if_true] at he
  rw [if_pos (by decide)] at he
  omega
end Go.Proofs.Ytjmohfahchamaaa

set_option linter.unusedVariables false
set_option linter.unusedSimpArgs false
namespace Go.Proofs.Ytjmohfahchamaaa
open Go.Vm

theorem p_szLen (n : Nat) (l : Int) (h1 : n ≤ 9223372036854775807) (h2 : 0 ≤ l) (h3 : l ≤ 1048576) : (bif (decide ((w64 (l - (n : Int))) < (0 : Int))) then (some ((-1 : Int), ())) else (some ((w64 (l - (n : Int))), ()))) = some (if l < (n : Int) then -1 else l - (n : Int), ()) := by
  rw [w64_eq (by omega) (by omega)]
  by_cases h : l < n
  · rw [if_pos h, decide_eq_true (by omega)]; rfl
  · rw [if_neg h, decide_eq_false (by omega)]; rfl
theorem p_szPass (n : Nat) (l : Int) (h : 0 ≤ l) : (bif decide ((if l < (n : Int) then -1 else l - (n : Int)) < (0 : Int)) then (some ((-1 : Int), ())) else (some ((if l < (n : Int) then -1 else l - (n : Int)), ()))) = some ((if l < (n : Int) then -1 else l - (n : Int)), ()) := by
  by_cases h1 : l < (n : Int)
  · rw [if_pos h1]; rfl
  · rw [if_neg h1, decide_eq_false (by omega)]; rfl
/-- What is left behind so many. -/
def szN (n : Nat) (l : Int) : Int := if l < (n : Int) then -1 else l - (n : Int)
theorem szN_small {n : Nat} {l : Int} (h : l ≤ 1048576) (h2 : ¬ szN n l < 0) : n ≤ 1048576 := by
  unfold szN at h2; split at h2 <;> omega

end Go.Proofs.Ytjmohfahchamaaa

set_option linter.unusedVariables false
set_option linter.unusedSimpArgs false
namespace Go.Proofs.Ytjmohfahchamaaa
open Go.Vm

noncomputable def spcFind (l : List MAsk) (n : Int) : MAsk × Bool := bif decide (idxOf (fun t : MAsk => decide (t.1 = n)) l 0 < 0) then ((0, (0, 0), (0, 0), 0), false) else (rdL (e := S_SpcTest) l (idxOf (fun t : MAsk => decide (t.1 = n)) l 0), true)
theorem beq_ask (a b : MAsk) : Sh.beq S_SpcTest a b = same a b := by
  show (decide (a.1 = b.1) && ((decide (a.2.1.1 = b.2.1.1) && decide (a.2.1.2 = b.2.1.2)) && ((decide (a.2.2.1.1 = b.2.2.1.1) && decide (a.2.2.1.2 = b.2.2.1.2)) && decide (a.2.2.2 = b.2.2.2)))) = _
  simp only [same_int, same_pair]
end Go.Proofs.Ytjmohfahchamaaa

set_option linter.unusedVariables false
set_option linter.unusedSimpArgs false
namespace Go.Proofs.Ytjmohfahchamaaa
open Go.Vm

theorem s_sl3Copy : C_sl3Copy (fun x => smS x.1) (fun x => (x.1, ())) := S_sl3Copy fun x hx => ⟨List.length x.1 + 1, (ev_sl3Copy _ x.1).trans (by
  obtain ⟨h1, h2⟩ := smS_iff.1 hx
  have h1 : List.length x.1 ≤ 4294967296 := h1
  refine (app_loop (α := MSpc) x.1 (fun y => y) (fun k i out => r_sl3Copy (x.1, ()) k [false, true, false, true, true] (h0_sl3Copy x.1 (i : Int) out)) (fun k out => ?_) (fun k i y r out hd hi ho => ?_)).trans ?_
  · rw [rd0_sl3Copy, lt_false (Nat.le_refl _)]; rfl
  · rw [rd0_sl3Copy, in_true hi, lt_true hi, w_succ (by omega), rdL_drop hd, fitL_eq (by have := h2 y (mem_drop hd); show 0 + y.1.length ≤ _; omega), fitL_eq (by show out.length + 1 ≤ _; omega)]
    rfl
  · rw [List.map_id'])⟩
theorem s_gClone_SpcTest : C_gClone_SpcTest (fun x => smA x.1) (fun x => (x.1, ())) := S_gClone_SpcTest fun x hx => ⟨0, (ev_gClone_SpcTest 0 x.1).trans (by
  have hx : List.length x.1 ≤ 4294967296 := of_decide_eq_true hx
  have key : ∀ l : List MAsk, List.length l ≤ 4294967296 → (bif (List.isEmpty l) then (agree (some (([] : List MAsk), ())) (bif (fitL [] l) then (some ((List.append [] l), ())) else none)) else (bif (fitL [] l) then (some ((List.append [] l), ())) else none)) = some (l, ()) := by
    intro l hl
    rw [fitL_eq (by show 0 + l.length ≤ _; omega)]
    cases l with
    | nil => unfold agree; exact if_pos rfl
    | cons a r => rfl
  exact key x.1 hx)⟩
theorem s_ispecs : C_ispecs (fun x => smS x.1) (fun x => (x.1, ())) := S_ispecs s_gClone_SpcTest fun x hx => ⟨List.length x.1 + 1, (ev_ispecs _ x.1).trans (by
  obtain ⟨h1, h2⟩ := smS_iff.1 hx
  have h1 : List.length x.1 ≤ 4294967296 := h1
  refine (app_loop (α := MSpc) x.1 (fun y => y) (fun k i out => r_ispecs (fun x => (x.1, ())) (fun x => smA x.1) (x.1, ()) k [false, true, false, true, true] (h0_ispecs x.1 (List.length x.1 : Int) (i : Int) out)) (fun k out => ?_) (fun k i y r out hd hi ho => ?_)).trans ?_
  · rw [rd0_ispecs, lt_false (Nat.le_refl _)]; rfl
  · have h3 : smA y.1 = true := decide_eq_true (h2 y (mem_drop hd))
    rw [rd0_ispecs, in_true hi, lt_true hi, w_succ (by omega), rdL_drop hd, fitL_eq (by show out.length + 1 ≤ _; omega)]
    simp only [h3, cond_true]
    rfl
  · rw [List.map_id'])⟩

theorem rd_spc (l : List MSpc) (k : Int) : rdL (e := S_SpcSpec) l k = l.getD k.toNat ([], 0) := rfl
theorem p_sSpcRaise (l : List MSpc) (n : Int) (hl : l.length ≤ 4294967296) (h1 : 0 ≤ n) (h2 : n < l.length) : r_sSpcRaise (fun x => (x.1, ())) (fun x => smS x.1) (fun x => (spcsOk x.1, ())) (fun x => (inq x.1 x.2.1 x.2.2.1, ())) (l, n, ()) (l.length + 1) [false, true, false, true, true, true] (h0_sSpcRaise l n ((0 : Nat) : Int) l) = some ((l.map retire).set n.toNat ((l.getD n.toNat ([], 0)).1, 2), true, ()) := by
  have hin : ∀ out : List MSpc, out.length = l.length → (bif decide ((0 : Int) ≤ n) then decide (n < (List.length out : Int)) else false) = true := fun out ho => by
    rw [decide_eq_true h1]; exact decide_eq_true (by omega)
  refine (set_loop (α := MSpc) l retire (fun out => some (out.set n.toNat ((out.getD n.toNat ([], 0)).1, 2), true, ())) (fun k i out => r_sSpcRaise (fun x => (x.1, ())) (fun x => smS x.1) (fun x => (spcsOk x.1, ())) (fun x => (inq x.1 x.2.1 x.2.2.1, ())) (l, n, ()) k [false, true, false, true, true, true] (h0_sSpcRaise l n (i : Int) out)) (fun k out ho => ?_) (fun k i y r out hd hi ho => ?_)).trans ?_
  · rw [rd0_sSpcRaise, lt_false (by omega), hin out ho]; rfl
  · have hi' : i < out.length := by omega
    rw [rd0_sSpcRaise, in_true hi', lt_true hi', w_succ (by omega), rdL_drop hd, Int.toNat_natCast]
    unfold retire
    cases h : decide (y.2 = 2)
    · have : out.set i y = out := set_self (by
        have := congrArg List.head? hd
        rwa [List.head?_drop] at this)
      simp only [cond_true, cond_false, this]
    · simp only [cond_true]
  · simp only [getD_retire]
theorem s_sSpcRaise : C_sSpcRaise (fun x => smS x.1) (fun x => ((spcRaise x.1 x.2.1).1, (spcRaise x.1 x.2.1).2, ())) := S_sSpcRaise s_sl3Copy s_sSpcOk s_sl1In fun x hx => ⟨List.length x.1 + 1, (ev_sSpcRaise _ x.1 x.2.1).trans (by
  have hx : smS x.1 = true := hx
  have h1 : List.length x.1 ≤ 4294967296 := (smS_iff.1 hx).1
  have key : ∀ (l : List MSpc) (n : Int) (Z : Option (List MSpc × Bool × Unit)), l.length ≤ 4294967296 → (0 ≤ n → n < l.length → Z = some ((l.map retire).set n.toNat ((l.getD n.toNat ([], 0)).1, 2), true, ())) → (bif (bif spcsOk l then false else true) then (some (l, (false, ()))) else (bif (bif inq n 0 (w64 ((List.length l : Int) - (1 : Int))) then false else true) then (some (l, (false, ()))) else (bif (bif (decide ((0 : Int) ≤ n)) then (decide (n < (List.length l : Int))) else false) then (bif (bif (decide ((rdL (e := S_SpcSpec) l n).2 = (1 : Int))) then false else true) then (some (l, (false, ()))) else Z) else none))) = some ((spcRaise l n).1, (spcRaise l n).2, ()) := by
    intro l n Z hl hZ
    unfold spcRaise
    cases hs : spcsOk l
    · rfl
    · rw [w64_eq (by omega) (by omega), rd_spc]
      cases hi : inq n 0 ((l.length : Int) - 1)
      · rfl
      · obtain ⟨h1, h2⟩ := inq_iff.1 hi
        rw [decide_eq_true h1, decide_eq_true (show n < (l.length : Int) by omega), hZ h1 (by omega)]
        cases decide ((l.getD n.toNat ([], 0)).2 = 1) <;> rfl
  simp only [hx, cond_true]
  exact key x.1 x.2.1 _ h1 fun h2 h3 => p_sSpcRaise x.1 x.2.1 h1 h2 h3)⟩

theorem s_iSpcNow_c1 : C_iSpcNow_c1 (fun _ => true) (fun x => (decide (x.1.2 = 2), ())) := S_iSpcNow_c1 fun x _ => ⟨0, ev_iSpcNow_c1 0 x.1⟩
theorem s_gIndexFunc_SpcSpec__iSpcNow_c1 : C_gIndexFunc_SpcSpec__iSpcNow_c1 (fun x => decide (List.length x.1 ≤ 4294967296)) (fun x => (spcNow x.1, ())) := S_gIndexFunc_SpcSpec__iSpcNow_c1 s_iSpcNow_c1 fun x hx => ⟨List.length x.1 + 1, (ev_gIndexFunc_SpcSpec__iSpcNow_c1 _ x.1 x.2.1).trans (by
  have hx : List.length x.1 ≤ 4294967296 := of_decide_eq_true hx
  refine idx_loop (α := MSpc) x.1 (fun t => decide (t.2 = 2)) (fun k i => r_gIndexFunc_SpcSpec__iSpcNow_c1 (fun x => (decide (x.1.2 = 2), ())) (x.1, x.2.1, ()) k [false, true, false, true] (h0_gIndexFunc_SpcSpec__iSpcNow_c1 x.1 x.2.1 (List.length x.1 : Int) (i : Int))) (fun k => ?_) (fun k i y r hd hi => ?_)
  · rw [rd0_gIndexFunc_SpcSpec__iSpcNow_c1, lt_false (Nat.le_refl _)]; rfl
  · rw [rd0_gIndexFunc_SpcSpec__iSpcNow_c1, in_true hi, lt_true hi, w_succ (by omega), rdL_drop hd]; rfl)⟩
theorem s_iSpcNow : C_iSpcNow (fun x => decide (List.length x.1 ≤ 4294967296)) (fun x => (spcNow x.1, ())) := S_iSpcNow s_gIndexFunc_SpcSpec__iSpcNow_c1 fun x hx => ⟨0, (ev_iSpcNow 0 x.1).trans (by
  have hx : decide (List.length x.1 ≤ 4294967296) = true := hx
  simp only [hx, cond_true])⟩
theorem s_iSpcRaise : C_iSpcRaise (fun x => smS x.1) (fun x => ((spcRaise x.1 x.2.1).1, (spcRaise x.1 x.2.1).2, ())) := S_iSpcRaise s_ispecs s_iSpcOk s_iin s_iSpcNow fun x hx => ⟨0, (ev_iSpcRaise 0 x.1 x.2.1).trans (by
  have hx : smS x.1 = true := hx
  have h1 : List.length x.1 ≤ 4294967296 := (smS_iff.1 hx).1
  have h2 : decide (List.length x.1 ≤ 4294967296) = true := decide_eq_true h1
  have key : ∀ (l : List MSpc) (n : Int), l.length ≤ 4294967296 → (bif (bif spcsOk l then false else true) then (some (l, (false, ()))) else (bif (bif inq n 0 (w64 ((List.length l : Int) - (1 : Int))) then false else true) then (some (l, (false, ()))) else (bif (bif (decide ((0 : Int) ≤ n)) then (decide (n < (List.length l : Int))) else false) then (bif (bif (decide ((rdL (e := S_SpcSpec) l n).2 = (1 : Int))) then false else true) then (some (l, (false, ()))) else (bif (decide ((0 : Int) ≤ spcNow l)) then (bif (bif (decide ((0 : Int) ≤ spcNow l)) then (decide (spcNow l < (List.length l : Int))) else false) then (bif (bif (decide ((0 : Int) ≤ n)) then (decide (n < (List.length (List.set l (Int.toNat (spcNow l)) ((rdL (e := S_SpcSpec) l (spcNow l)).1, (3 : Int))) : Int))) else false) then (some ((List.set (List.set l (Int.toNat (spcNow l)) ((rdL (e := S_SpcSpec) l (spcNow l)).1, (3 : Int))) (Int.toNat n) ((rdL (e := S_SpcSpec) (List.set l (Int.toNat (spcNow l)) ((rdL (e := S_SpcSpec) l (spcNow l)).1, (3 : Int))) n).1, (2 : Int))), (true, ()))) else none) else none) else (bif (bif (decide ((0 : Int) ≤ n)) then (decide (n < (List.length l : Int))) else false) then (some ((List.set l (Int.toNat n) ((rdL (e := S_SpcSpec) l n).1, (2 : Int))), (true, ()))) else none))) else none))) = some ((spcRaise l n).1, (spcRaise l n).2, ()) := by
    intro l n hl
    unfold spcRaise
    cases hs : spcsOk l
    · rfl
    · rw [w64_eq (by omega) (by omega), rd_spc]
      cases hi : inq n 0 ((l.length : Int) - 1)
      · rfl
      · obtain ⟨h1, h2⟩ := inq_iff.1 hi
        have hf : force l ≤ 1 := by unfold spcsOk at hs; simp at hs; exact hs.2.2
        have hr := retire_first l hf
        have e0 : ((l.map retire).getD n.toNat ([], 0)).1 = (l.getD n.toNat ([], 0)).1 := getD_retire l n.toNat
        rw [decide_eq_true h1, decide_eq_true (show n < (l.length : Int) by omega)]
        cases decide ((l.getD n.toNat ([], 0)).2 = 1)
        · rfl
        · rcases idxOf_range (fun s : MSpc => decide (s.2 = 2)) l with hn | ⟨hn1, hn2⟩
          · have hn : spcNow l = -1 := hn
            rw [hn] at hr ⊢
            rw [show l.map retire = l from hr]
            rfl
          · have hn1 : 0 ≤ spcNow l := hn1
            have hn2 : spcNow l < l.length := hn2
            rw [if_neg (by omega)] at hr
            simp only [rd_spc, List.length_set]
            rw [← hr, e0, decide_eq_true hn1, decide_eq_true hn2, decide_eq_true (show n < (l.length : Int) by omega)]
            rfl
  simp only [hx, h2, cond_true]
  exact key x.1 x.2.1 h1)⟩

end Go.Proofs.Ytjmohfahchamaaa

set_option linter.unusedVariables false
set_option linter.unusedSimpArgs false
namespace Go.Proofs.Ytjmohfahchamaaa
open Go.Vm
theorem rdL_set {S : Sh} {l : List S.den} {i : Nat} {x : S.den} (h : i < l.length) : rdL (e := S) (l.set i x) (i : Int) = x := by
  unfold rdL
  rw [Int.toNat_natCast, List.getD_eq_getElem?_getD, List.getElem?_set_self h]; rfl
theorem s_lmarkSpcTestS : C_lmarkSpcTestS (fun x => mkPre (szL (fun _ => 6)) x.1 x.2.1) (fun x => ((markL mkAsk x.1 x.2.1).2, ((markL mkAsk x.1 x.2.1).1, ()))) := S_lmarkSpcTestS fun x hx => ⟨List.length x.1 + 1, (ev_lmarkSpcTestS _ x.1 x.2.1).trans (by
  obtain ⟨h1, h2⟩ := mkPre_iff.1 hx
  have hl : List.length x.1 ≤ szL (fun _ => 6) x.1 := szL_len (fun _ => by decide) x.1
  refine mark_loop (α := MAsk) (mk := mkAsk) (sz := fun _ => 6) mkAsk_ok.go x.1 4294967296 (fun c out => some (c, (out, ()))) (fun k i c out => r_lmarkSpcTestS (x.1, x.2.1, ()) k [false, true, false, true] (h0_lmarkSpcTestS x.1 x.2.1 c (i : Int) out)) (fun k c out ho => ?_) (fun k i y r c out hd hi ho h0 hB => ?_) x.2.1 h1 h2
  · rw [rd0_lmarkSpcTestS]
    try simp only [lt_eq]
    rw [lt_false (show out.length ≤ List.length x.1 by omega)]; rfl
  · have hi' : i < out.length := by omega
    have hB : c + 6 ≤ 4294967296 := hB
    rw [rd0_lmarkSpcTestS]
    have hr : ∀ y : MAsk, rdL (e := S_SpcTest) (out.set i y) (i : Int) = y := fun y => rdL_set hi'
    have h0i : decide ((0 : Int) ≤ (i : Int)) = true := decide_eq_true (by omega)
    simp only [lt_eq, Int.toNat_natCast, List.length_set, hr, List.set_set, h0i, lt_true hi', cond_true, w_succ (show i ≤ 4294967296 by omega)]
    rw [w64_eq (x := c + 1) (by omega) (by omega), w64_eq (x := c + 1 + 1) (by omega) (by omega), w64_eq (x := c + 1 + 1 + 1) (by omega) (by omega), w64_eq (x := c + 1 + 1 + 1 + 1) (by omega) (by omega), w64_eq (x := c + 1 + 1 + 1 + 1 + 1) (by omega) (by omega), w64_eq (x := c + 1 + 1 + 1 + 1 + 1 + 1) (by omega) (by omega)]
    rfl)⟩
theorem s_lheldSpcTestS : C_lheldSpcTestS (fun x => mkPre (szL (fun _ => 6)) x.1 x.2.1) (fun x => (hdOf (markL mkAsk) x.1 x.2.1, ())) := S_lheldSpcTestS fun x hx => ⟨List.length x.1 + 1, (ev_lheldSpcTestS _ x.1 x.2.1).trans (by
  obtain ⟨h1, h2⟩ := mkPre_iff.1 hx
  have hl : List.length x.1 ≤ szL (fun _ => 6) x.1 := szL_len (fun _ => by decide) x.1
  refine held_loop (α := MAsk) (mk := mkAsk) (sz := fun _ => 6) mkAsk_ok x.1 4294967296 (fun k i c => r_lheldSpcTestS (x.1, x.2.1, ()) k [false, true, false, true] (h0_lheldSpcTestS x.1 x.2.1 c (i : Int))) (fun k c => ?_) (fun k i y r c hd hi h0 hB => ?_) x.2.1 h1 h2
  · rw [rd0_lheldSpcTestS]
    try simp only [lt_eq]
    rw [lt_false (Nat.le_refl _)]; rfl
  · have hB : c + 6 ≤ 4294967296 := hB
    rw [rd0_lheldSpcTestS]
    have h0i : decide ((0 : Int) ≤ (i : Int)) = true := decide_eq_true (by omega)
    simp only [lt_eq, h0i, lt_true hi, cond_true, w_succ (show i ≤ 4294967296 by omega), rdL_drop hd]
    rw [w64_eq (x := c + 1) (by omega) (by omega), w64_eq (x := c + 1 + 1) (by omega) (by omega), w64_eq (x := c + 1 + 1 + 1) (by omega) (by omega), w64_eq (x := c + 1 + 1 + 1 + 1) (by omega) (by omega), w64_eq (x := c + 1 + 1 + 1 + 1 + 1) (by omega) (by omega), w64_eq (x := c + 1 + 1 + 1 + 1 + 1 + 1) (by omega) (by omega)]
    unfold mkAsk
    simp only [same_pr, same_int]
    cases same y.1 c <;> cases same y.2.1.1 (c + 1) <;> cases same y.2.1.2 (c + 1 + 1) <;> cases same y.2.2.1.1 (c + 1 + 1 + 1) <;> cases same y.2.2.1.2 (c + 1 + 1 + 1 + 1) <;> cases same y.2.2.2 (c + 1 + 1 + 1 + 1 + 1) <;> rfl)⟩
theorem s_lmarkSpcSpecS : C_lmarkSpcSpecS (fun x => mkPre (szL szS) x.1 x.2.1) (fun x => ((markL mkSpc x.1 x.2.1).2, ((markL mkSpc x.1 x.2.1).1, ()))) := S_lmarkSpcSpecS s_lmarkSpcTestS fun x hx => ⟨List.length x.1 + 1, (ev_lmarkSpcSpecS _ x.1 x.2.1).trans (by
  obtain ⟨h1, h2⟩ := mkPre_iff.1 hx
  have hl : List.length x.1 ≤ szL szS x.1 := szL_len szS_pos x.1
  refine mark_loop (α := MSpc) (mk := mkSpc) (sz := szS) mkSpc_ok.go x.1 4294967296 (fun c out => some (c, (out, ()))) (fun k i c out => r_lmarkSpcSpecS (fun x => ((markL mkAsk x.1 x.2.1).2, ((markL mkAsk x.1 x.2.1).1, ()))) (fun x => mkPre (szL (fun _ => 6)) x.1 x.2.1) (x.1, x.2.1, ()) k [false, true, false, true] (h0_lmarkSpcSpecS x.1 x.2.1 c (i : Int) out)) (fun k c out ho => ?_) (fun k i y r c out hd hi ho h0 hB => ?_) x.2.1 h1 h2
  · rw [rd0_lmarkSpcSpecS, lt_false (show out.length ≤ List.length x.1 by omega)]; rfl
  · have hi' : i < out.length := by omega
    have hB : c + ((szL (fun _ => 6) y.1 + 1 : Nat) : Int) ≤ 4294967296 := hB
    have hg := mkAsk_ok.list.go y.1 c
    rw [rd0_lmarkSpcSpecS]
    have hr : ∀ y : MSpc, rdL (e := S_SpcSpec) (out.set i y) (i : Int) = y := fun y => rdL_set hi'
    have h0i : decide ((0 : Int) ≤ (i : Int)) = true := decide_eq_true (by omega)
    have hp : mkPre (szL (fun _ => 6)) y.1 c = true := mkPre_iff.2 ⟨h0, by omega⟩
    simp only [rdL_drop (S := S_SpcSpec) hd, hp, cl, Int.toNat_natCast, List.length_set, hr, List.set_set, h0i, lt_true hi', cond_true, w_succ (show i ≤ 4294967296 by omega)]
    rw [w64_eq (x := (markL mkAsk y.1 c).2 + 1) (by omega) (by omega)]
    rfl)⟩
theorem s_lheldSpcSpecS : C_lheldSpcSpecS (fun x => mkPre (szL szS) x.1 x.2.1) (fun x => (hdOf (markL mkSpc) x.1 x.2.1, ())) := S_lheldSpcSpecS s_lheldSpcTestS fun x hx => ⟨List.length x.1 + 1, (ev_lheldSpcSpecS _ x.1 x.2.1).trans (by
  obtain ⟨h1, h2⟩ := mkPre_iff.1 hx
  have hl : List.length x.1 ≤ szL szS x.1 := szL_len szS_pos x.1
  refine held_loop (α := MSpc) (mk := mkSpc) (sz := szS) mkSpc_ok x.1 4294967296 (fun k i c => r_lheldSpcSpecS (fun x => (hdOf (markL mkAsk) x.1 x.2.1, ())) (fun x => mkPre (szL (fun _ => 6)) x.1 x.2.1) (x.1, x.2.1, ()) k [false, true, false, true] (h0_lheldSpcSpecS x.1 x.2.1 c (i : Int))) (fun k c => ?_) (fun k i y r c hd hi h0 hB => ?_) x.2.1 h1 h2
  · rw [rd0_lheldSpcSpecS, lt_false (Nat.le_refl _)]; rfl
  · have hB : c + ((szL (fun _ => 6) y.1 + 1 : Nat) : Int) ≤ 4294967296 := hB
    have hg := mkAsk_ok.list.go y.1 c
    have hp : mkPre (szL (fun _ => 6)) y.1 c = true := mkPre_iff.2 ⟨h0, by omega⟩
    rw [rd0_lheldSpcSpecS]
    have h0i : decide ((0 : Int) ≤ (i : Int)) = true := decide_eq_true (by omega)
    simp only [h0i, lt_true hi, cond_true, w_succ (show i ≤ 4294967296 by omega), rdL_drop (S := S_SpcSpec) hd, hp, cl]
    unfold mkSpc
    simp only [same_pr, same_int]
    rcases mkAsk_ok.list.hd (x := y.1) h0 with ⟨g1, g2, g3⟩ | ⟨g1, g2, g3⟩
    · rw [g2, g3]; rfl
    · have e : hdOf (markL mkAsk) y.1 c = (markL mkAsk y.1 c).2 := by rw [g2, hg]
      rw [g3, decide_eq_false (show ¬ hdOf (markL mkAsk) y.1 c < 0 by omega), e, w64_eq (x := (markL mkAsk y.1 c).2 + 1) (by omega) (by omega)]
      cases same y.2 (markL mkAsk y.1 c).2 <;> rfl)⟩

end Go.Proofs.Ytjmohfahchamaaa

set_option linter.unusedVariables false
set_option linter.unusedSimpArgs false
namespace Go.Proofs.Ytjmohfahchamaaa
open Go.Vm
theorem s_lFnExactSpcRaise : C_lFnExactSpcRaise (lawPre _) (fun _ => (true, ())) := S_lFnExactSpcRaise s_lszSpcSpecS s_ltoSpcSpecS s_sSpcRaise s_iSpcRaise s_leqSpcSpecS s_lmarkSpcSpecS s_lheldSpcSpecS fun x hx => ⟨0, (ev_lFnExactSpcRaise 0 x.1 x.2.1).trans (by
  have hw := lawPre_iff.1 hx
  obtain ⟨l, t, u⟩ := x
  change List MSpc at l
  have h1 : wfSpcs l = true := Bool.and_eq_true_iff.2 ⟨okLen_iff.2 hw.1.1, List.all_eq_true.2 fun s hs => okLen_iff.2 (hw.1.2 s hs).1.1⟩
  have h2 : inq (1048576 : Int) 0 1048576 = true := rfl
  simp only [h1, h2, Bool.and_self, cond_true, cl]
  by_cases h : szList szSpc l 1048576 < 0
  · simp only [decide_eq_true h, cond_true]
  · have hs := szList_all (f := szSpc) (xs := l) (fun s l h => szAsk_le _ _ h) (P := fun s => s.1.length ≤ 1048576) (fun s l h1 h2 => szAsk_small h1 h2) (Int.le_refl _) (Int.not_lt.1 h)
    have hle : szList szSpc l 1048576 ≤ 1048576 := szList_le (fun s l h => szAsk_le _ _ h) (by decide)
    have h3 : smS l = true := smS_iff.2 ⟨Nat.le_trans hs.1 (by decide), fun s hm => Nat.le_trans (hs.2 s hm) (by decide)⟩
    have h4 : inq (szList szSpc l 1048576) 0 1048576 = true := inq_iff.2 ⟨by omega, hle⟩
    have hf := szList_leaf (f := szSpc) (sz := szS) (xs := l) (fun s l h => szAsk_le _ _ h) szSpc_leaf (l := 1048576) (by decide) (by omega)
    have hm : mkPre (szL szS) l 1 = true := mkPre_iff.2 ⟨by decide, by omega⟩
    have hr := raise_form l t
    have hr1 : smS (spcRaise l t).1 = true := form_sm hr h3
    have hr2 : mkPre (szL szS) (spcRaise l t).1 1 = true := mkPre_iff.2 ⟨by decide, by rw [form_sz hr]; omega⟩
    have p1 : decide ((markL mkSpc l 1).2 < 0) = false := mkSpc_ok.list.pos (by decide)
    have p2 : decide ((markL mkSpc (spcRaise l t).1 1).2 < 0) = false := mkSpc_ok.list.pos (by decide)
    have p3 := mkSpc_ok.list.pre hr2
    have p4 := mkSpc_ok.list.held (spcRaise l t).1 1
    simp only [decide_eq_false h, h3, hm, hr1, hr2, p1, p2, p3, p4, same_self, beq_self_eq_true, Bool.and_self, cond_true, cond_false, decide_eq_true_eq, decide_true])⟩

end Go.Proofs.Ytjmohfahchamaaa
