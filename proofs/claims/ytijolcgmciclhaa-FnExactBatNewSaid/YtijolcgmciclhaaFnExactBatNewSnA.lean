/- The functions that FnExactBatNew reaches: what each of them answers, part 1. Conditions stand in each contract. -/
import Derived.Test.YtijolcgmciclhaaFnExactBatNewEq0
import Derived.Test.YtijolcgmciclhaaMoA
set_option linter.unusedVariables false
set_option linter.unusedSimpArgs false
namespace Go.Proofs.Ytijolcgmciclhaa
open Go.Vm

theorem s_iin : C_iin (fun _ => true) (fun x => (inq x.1 x.2.1 x.2.2.1, ())) := S_iin fun x _ => ⟨0, (ev_iin 0 x.1 x.2.1 x.2.2.1).trans (by
  simp only [bif_some, bif_pair, bif_and]; rfl)⟩
theorem s_sl1In : C_sl1In (fun _ => true) (fun x => (inq x.1 x.2.1 x.2.2.1, ())) := S_sl1In fun x _ => ⟨0, (ev_sl1In 0 x.1 x.2.1 x.2.2.1).trans (by
  simp only [bif_some, bif_pair, bif_and]; rfl)⟩

/-- Ten, so many times. -/
theorem pw_step {i : Nat} (h : i < 18) : w64 ((10 : Int) ^ i * (10 : Int)) = 10 ^ (i + 1) := by
  have : (10 : Int) ^ (i + 1) ≤ 10 ^ 18 := by exact_mod_cast Nat.pow_le_pow_right (by decide) (by omega)
  have h2 : (0 : Int) < 10 ^ (i + 1) := Int.pow_pos (by decide)
  rw [← Int.pow_succ, w64_eq (by omega) (by omega)]

theorem p_ipower (n : Int) (hn : n ≤ 18) : r_ipower (n, ()) (n.toNat + 1) [false, true, false, true, true] (h0_ipower n (1 : Int) (0 : Int)) = some (pw n, ()) := by
  by_cases h0 : n ≤ 0
  · have : n.toNat = 0 := by omega
    rw [this, rd0_ipower]
    have : decide ((0 : Int) < n) = false := decide_eq_false (by omega)
    rw [this]
    show some ((1 : Int), ()) = _
    unfold pw
    rw [show n.toNat = 0 by omega]; rfl
  · have hc : (n.toNat : Int) = n := by omega
    refine count_loop (σ := Unit) n.toNat (fun k i _ => r_ipower (n, ()) k [false, true, false, true, true] (h0_ipower n ((10 : Int) ^ i) (i : Int))) (fun _ _ => (pw n, ())) (fun _ _ => True) (fun k s _ => ?_) (fun k i s hi _ => ?_) n.toNat 0 () (by omega) trivial
    · rw [rd0_ipower, show decide ((n.toNat : Int) < n) = false from decide_eq_false (by omega)]
      rfl
    · refine .inr ⟨(), trivial, ?_, rfl⟩
      rw [rd0_ipower, show decide ((i : Int) < n) = true from decide_eq_true (by omega), pw_step (by omega), w_succ (by omega)]
      rfl
theorem s_ipower : C_ipower (fun x => decide (x.1 ≤ 18)) (fun x => (pw x.1, ())) := S_ipower fun x hx => ⟨_, (ev_ipower _ x.1).trans (p_ipower x.1 (of_decide_eq_true hx))⟩
theorem p_sl1Ten (n : Int) (hn : n ≤ 18) : r_sl1Ten (n, ()) (n.toNat + 1) [false, true, false, true, true] (h0_sl1Ten n (1 : Int) (0 : Int)) = some (pw n, ()) := by
  by_cases h0 : n ≤ 0
  · have : n.toNat = 0 := by omega
    rw [this, rd0_sl1Ten]
    have : decide ((0 : Int) < n) = false := decide_eq_false (by omega)
    rw [this]
    show some ((1 : Int), ()) = _
    unfold pw
    rw [show n.toNat = 0 by omega]; rfl
  · have hc : (n.toNat : Int) = n := by omega
    refine count_loop (σ := Unit) n.toNat (fun k i _ => r_sl1Ten (n, ()) k [false, true, false, true, true] (h0_sl1Ten n ((10 : Int) ^ i) (i : Int))) (fun _ _ => (pw n, ())) (fun _ _ => True) (fun k s _ => ?_) (fun k i s hi _ => ?_) n.toNat 0 () (by omega) trivial
    · rw [rd0_sl1Ten, show decide ((n.toNat : Int) < n) = false from decide_eq_false (by omega)]
      rfl
    · refine .inr ⟨(), trivial, ?_, rfl⟩
      rw [rd0_sl1Ten, show decide ((i : Int) < n) = true from decide_eq_true (by omega), pw_step (by omega), w_succ (by omega)]
      rfl
theorem s_sl1Ten : C_sl1Ten (fun x => decide (x.1 ≤ 18)) (fun x => (pw x.1, ())) := S_sl1Ten fun x hx => ⟨_, (ev_sl1Ten _ x.1).trans (p_sl1Ten x.1 (of_decide_eq_true hx))⟩
theorem near_arith {n d : Int} (h : nrPre n d = true) (h0 : 0 ≤ n) : w64 (Int.tdiv (w64 (w64 ((2 : Int) * n) + d)) (w64 ((2 : Int) * d))) = near n d ∧ decide (w64 ((2 : Int) * d) = (0 : Int)) = false ∧ 0 ≤ near n d ∧ near n d ≤ 2000000000000000 := by
  obtain ⟨⟨h1, h2⟩, h3, h4⟩ := nrPre_iff.1 h
  have e1 : w64 ((2 : Int) * d) = 2 * d := w64_eq (by omega) (by omega)
  have e2 : w64 ((2 : Int) * n) = 2 * n := w64_eq (by omega) (by omega)
  have e3 : w64 (2 * n + d) = 2 * n + d := w64_eq (by omega) (by omega)
  have e4 : Int.tdiv (2 * n + d) (2 * d) = (2 * n + d) / (2 * d) := Int.tdiv_eq_ediv_of_nonneg (by omega)
  have a1 : 0 ≤ (2 * n + d) / (2 * d) := Int.ediv_nonneg (by omega) (by omega)
  have a2 : (2 * n + d) / (2 * d) ≤ n + d := by
    refine Int.ediv_le_of_le_mul (by omega) ?_
    have : n + d ≤ (n + d) * d := by
      have := Int.mul_le_mul_of_nonneg_left (show (1 : Int) ≤ d by omega) (show 0 ≤ n + d by omega)
      omega
    have e : (n + d) * (2 * d) = 2 * ((n + d) * d) := by rw [Int.mul_left_comm]
    omega
  have e5 : near n d = (2 * n + d) / (2 * d) := by unfold near; rw [if_neg (by omega)]
  rw [e1, e2, e3, e4, e5]
  exact ⟨w64_eq (by omega) (by omega), decide_eq_false (by omega), a1, by omega⟩

theorem near_neg {n d : Int} (h : n < 0) : near n d = -(near (-n) d) := by
  unfold near; rw [if_pos h, if_neg (by omega)]
theorem p_inearest_up {n d : Int} {g p} (h : nrPre n d = true) (h0 : 0 ≤ n) : E_inearest g p 0 (n, d, ()) = some (near n d, ()) := (ev_inearest 0 n d).trans (by
  obtain ⟨h1, h2, _⟩ := near_arith h h0
  rw [show decide (n < (0 : Int)) = false from decide_eq_false (by omega), h2, h1]
  rfl)
theorem s_inearest_up : C_inearest (fun x => nrPre x.1 x.2.1 && decide (0 ≤ x.1)) (fun x => (near x.1 x.2.1, ())) := S_inearest (S0_inearest (fn := fun _ => (0, ()))) fun x hx => ⟨0, p_inearest_up (Bool.and_eq_true_iff.1 hx).1 (of_decide_eq_true (Bool.and_eq_true_iff.1 hx).2)⟩
theorem p_inearest {n d : Int} (hx : nrPre n d = true) : E_inearest (fun x => (near x.1 x.2.1, ())) (fun x => nrPre x.1 x.2.1 && decide (0 ≤ x.1)) 0 (n, d, ()) = some (near n d, ()) := by
  obtain ⟨⟨h1, h2⟩, h3, h4⟩ := nrPre_iff.1 hx
  by_cases h0 : n < 0
  · refine (ev_inearest 0 n d).trans ?_
    have e : w64 ((0 : Int) - n) = -n := by rw [w64_eq (by omega) (by omega)]; omega
    have hp : nrPre (-n) d = true := nrPre_iff.2 ⟨⟨by omega, by omega⟩, h3, h4⟩
    obtain ⟨_, _, g1, g2⟩ := near_arith hp (by omega)
    rw [show decide (n < (0 : Int)) = true from decide_eq_true h0, e]
    simp only [cond_true, hp, show decide (0 ≤ -n) = true from decide_eq_true (by omega), Bool.and_self]
    rw [near_neg h0, show w64 ((0 : Int) - near (-n) d) = -near (-n) d from by rw [w64_eq (by omega) (by omega)]; omega]
  · exact p_inearest_up hx (by omega)
theorem s_inearest : C_inearest (fun x => nrPre x.1 x.2.1) (fun x => (near x.1 x.2.1, ())) := S_inearest s_inearest_up fun x hx => ⟨0, p_inearest hx⟩
theorem p_sl1Near_up {n d : Int} {g p} (h : nrPre n d = true) (h0 : 0 ≤ n) : E_sl1Near g p 0 (n, d, ()) = some (near n d, ()) := (ev_sl1Near 0 n d).trans (by
  obtain ⟨h1, h2, _⟩ := near_arith h h0
  rw [show decide (n < (0 : Int)) = false from decide_eq_false (by omega), h2, h1]
  rfl)
theorem s_sl1Near_up : C_sl1Near (fun x => nrPre x.1 x.2.1 && decide (0 ≤ x.1)) (fun x => (near x.1 x.2.1, ())) := S_sl1Near (S0_sl1Near (fn := fun _ => (0, ()))) fun x hx => ⟨0, p_sl1Near_up (Bool.and_eq_true_iff.1 hx).1 (of_decide_eq_true (Bool.and_eq_true_iff.1 hx).2)⟩
theorem p_sl1Near {n d : Int} (hx : nrPre n d = true) : E_sl1Near (fun x => (near x.1 x.2.1, ())) (fun x => nrPre x.1 x.2.1 && decide (0 ≤ x.1)) 0 (n, d, ()) = some (near n d, ()) := by
  obtain ⟨⟨h1, h2⟩, h3, h4⟩ := nrPre_iff.1 hx
  by_cases h0 : n < 0
  · refine (ev_sl1Near 0 n d).trans ?_
    have e : w64 ((0 : Int) - n) = -n := by rw [w64_eq (by omega) (by omega)]; omega
    have hp : nrPre (-n) d = true := nrPre_iff.2 ⟨⟨by omega, by omega⟩, h3, h4⟩
    obtain ⟨_, _, g1, g2⟩ := near_arith hp (by omega)
    rw [show decide (n < (0 : Int)) = true from decide_eq_true h0, e]
    simp only [cond_true, hp, show decide (0 ≤ -n) = true from decide_eq_true (by omega), Bool.and_self]
    rw [near_neg h0, show w64 ((0 : Int) - near (-n) d) = -near (-n) d from by rw [w64_eq (by omega) (by omega)]; omega]
  · exact p_sl1Near_up hx (by omega)
theorem s_sl1Near : C_sl1Near (fun x => nrPre x.1 x.2.1) (fun x => (near x.1 x.2.1, ())) := S_sl1Near s_sl1Near_up fun x hx => ⟨0, p_sl1Near hx⟩

end Go.Proofs.Ytijolcgmciclhaa

set_option linter.unusedVariables false
set_option linter.unusedSimpArgs false
namespace Go.Proofs.Ytijolcgmciclhaa
open Go.Vm

theorem s_iDecOk : C_iDecOk (fun _ => true) (fun x => (decOk x.1, ())) := S_iDecOk s_iin s_ipower fun x _ => ⟨0, (ev_iDecOk 0 x.1).trans (p_decOk x.1)⟩
theorem s_sDecOk : C_sDecOk (fun _ => true) (fun x => (decOk x.1, ())) := S_sDecOk s_sl1In s_sl1Ten fun x _ => ⟨0, (ev_sDecOk 0 x.1).trans (p_decOk x.1)⟩
theorem s_iDecAt : C_iDecAt (fun _ => true) (fun x => (decAt x.1 x.2.1, ())) := S_iDecAt s_iDecOk s_iin s_ipower s_inearest fun x _ => ⟨0, (ev_iDecAt 0 x.1 x.2.1).trans (p_decAt x.1 x.2.1 _ fun h1 h2 => p_atR h1 h2)⟩
theorem s_sl1At : C_sl1At (fun x => decOk x.1 && inq x.2.1 0 3) (fun x => (atR x.1 x.2.1, ())) := S_sl1At s_sl1Ten s_sl1Near fun x hx => ⟨0, (ev_sl1At 0 x.1 x.2.1).trans (p_atR (Bool.and_eq_true_iff.1 hx).1 (Bool.and_eq_true_iff.1 hx).2)⟩
theorem s_gisNaN_int : C_gisNaN_int (fun _ => true) (fun _ => (false, ())) := S_gisNaN_int fun x _ => ⟨0, (ev_gisNaN_int 0 x.1).trans (by
  rw [decide_eq_true rfl]; rfl)⟩
theorem s_gCompare_int : C_gCompare_int (fun _ => true) (fun x => (cmpI x.1 x.2.1, ())) := S_gCompare_int s_gisNaN_int fun x _ => ⟨0, (ev_gCompare_int 0 x.1 x.2.1).trans (p_cmpI x.1 x.2.1)⟩
theorem s_iDecCmp : C_iDecCmp (fun _ => true) (fun x => (decCmp x.1 x.2.1, ())) := S_iDecCmp s_iDecOk s_iDecAt s_gCompare_int fun x _ => ⟨0, (ev_iDecCmp 0 x.1 x.2.1).trans (p_decCmp x.1 x.2.1 _ fun h1 h2 => by
  unfold decAt
  simp only [h1, h2, in03, Bool.and_self, cond_true])⟩
theorem s_sDecCmp : C_sDecCmp (fun _ => true) (fun x => (decCmp x.1 x.2.1, ())) := S_sDecCmp s_sDecOk s_sl1At fun x _ => ⟨0, (ev_sDecCmp 0 x.1 x.2.1).trans (p_decCmp x.1 x.2.1 _ fun h1 h2 => by
  simp only [h1, h2, in03, Bool.and_self, cond_true]
  exact p_cmpI _ _)⟩
theorem s_iisTest : C_iisTest (fun _ => true) (fun x => (inq x.1 1 4, ())) := S_iisTest s_iin fun x _ => ⟨0, ev_iisTest 0 x.1⟩
theorem s_iSpcTest_ok : C_iSpcTest_ok (fun _ => true) (fun x => (askOk x.1, ())) := S_iSpcTest_ok s_iisTest s_iDecOk s_iDecCmp s_iin fun x _ => ⟨0, (ev_iSpcTest_ok 0 x.1).trans (by
  simp only [bif_some, bif_pair, bif_and]; rfl)⟩
theorem s_sl3Test : C_sl3Test (fun _ => true) (fun x => (askOk x.1, ())) := S_sl3Test s_sl1In s_sDecOk s_sDecCmp fun x _ => ⟨0, (ev_sl3Test 0 x.1).trans (by
  simp only [bif_some, bif_pair, bif_and]; rfl)⟩
end Go.Proofs.Ytijolcgmciclhaa

set_option linter.unusedVariables false
set_option linter.unusedSimpArgs false
namespace Go.Proofs.Ytijolcgmciclhaa
open Go.Vm

theorem s_ltoDecDec : C_ltoDecDec (fun _ => true) (fun x => (x.1, ())) := S_ltoDecDec fun x _ => ⟨0, ev_ltoDecDec 0 x.1⟩
theorem s_ltoSpcTest : C_ltoSpcTest (fun _ => true) (fun x => (x.1, ())) := S_ltoSpcTest s_ltoDecDec fun x _ => ⟨0, ev_ltoSpcTest 0 x.1⟩

theorem p_iSpcTestsOk (xs : List MAsk) (hx : xs.length ≤ 4294967296) : r_iSpcTestsOk (fun x => (askOk x.1, ())) (fun x => (inq x.1 x.2.1 x.2.2.1, ())) (xs, ()) (xs.length + 1) [false, true, false, true] (h0_iSpcTestsOk xs (xs.length : Int) ((0 : Nat) : Int)) = some (asksOk none xs && inq xs.length 1 4, ()) := by
  refine asks_loop xs hx (inq xs.length 1 4) (fun k i => r_iSpcTestsOk (fun x => (askOk x.1, ())) (fun x => (inq x.1 x.2.1 x.2.2.1, ())) (xs, ()) k [false, true, false, true] (h0_iSpcTestsOk xs (xs.length : Int) (i : Int))) (fun k => ?_) (fun k i x r hd hi => ?_)
  · rw [rd0_iSpcTestsOk, lt_false (Nat.le_refl _)]; rfl
  · rw [rd0_iSpcTestsOk, in_true hi, lt_true hi, w_succ (by omega)]
    exact asks_step hx hd hi _ (fun j => rdL (e := S_SpcTest) xs j) (fun j hj => rd_asks j hj)
theorem s_iSpcTestsOk : C_iSpcTestsOk (fun x => decide (List.length x.1 ≤ 4294967296)) (fun x => (testsOk x.1, ())) := S_iSpcTestsOk s_iSpcTest_ok s_iin fun x hx => ⟨_, (ev_iSpcTestsOk _ x.1).trans ((p_iSpcTestsOk x.1 (of_decide_eq_true hx)).trans (by
  unfold testsOk; rw [Bool.and_comm]))⟩

theorem p_sSpcTestsOk (xs : List MAsk) (hx : xs.length ≤ 4294967296) : r_sSpcTestsOk (fun x => (inq x.1 x.2.1 x.2.2.1, ())) (fun x => (askOk x.1, ())) (xs, ()) (xs.length + 1) [false, true, false, true, true] (h0_sSpcTestsOk xs ((0 : Nat) : Int)) = some (asksOk none xs && true, ()) := by
  refine asks_loop xs hx true (fun k i => r_sSpcTestsOk (fun x => (inq x.1 x.2.1 x.2.2.1, ())) (fun x => (askOk x.1, ())) (xs, ()) k [false, true, false, true, true] (h0_sSpcTestsOk xs (i : Int))) (fun k => ?_) (fun k i x r hd hi => ?_)
  · rw [rd0_sSpcTestsOk, lt_false (Nat.le_refl _)]; rfl
  · rw [rd0_sSpcTestsOk, in_true hi, lt_true hi, w_succ (by omega)]
    exact asks_step hx hd hi _ (fun j => rdL (e := S_SpcTest) xs j) (fun j hj => rd_asks j hj)
theorem s_sSpcTestsOk : C_sSpcTestsOk (fun _ => true) (fun x => (testsOk x.1, ())) := S_sSpcTestsOk s_sl1In s_sl3Test fun x _ => ⟨List.length x.1 + 1, (ev_sSpcTestsOk _ x.1).trans (by
  unfold testsOk
  cases h : inq (List.length x.1) 1 4
  · rfl
  · have := inq_iff.1 h
    refine (p_sSpcTestsOk x.1 (by omega)).trans ?_
    rw [Bool.and_true]; rfl)⟩

theorem s_lszSpcTestS : C_lszSpcTestS (fun x => okLen (List.length x.1) && inq x.2.1 0 1048576) (fun x => (if x.2.1 < (List.length x.1 : Int) then -1 else x.2.1 - (List.length x.1 : Int), ())) := S_lszSpcTestS fun x hx => ⟨0, (ev_lszSpcTestS 0 x.1 x.2.1).trans (by
  have key : ∀ (n : Nat) (l : Int), n ≤ 9223372036854775807 → 0 ≤ l → l ≤ 1048576 → (bif (decide ((w64 (l - (n : Int))) < (0 : Int))) then (some ((-1 : Int), ())) else (some ((w64 (l - (n : Int))), ()))) = some (if l < (n : Int) then -1 else l - (n : Int), ()) := fun n l h1 h2 h3 => by
    rw [w64_eq (by omega) (by omega)]
    by_cases h : l < n
    · rw [if_pos h, decide_eq_true (by omega)]; rfl
    · rw [if_neg h, decide_eq_false (by omega)]; rfl
  have h := Bool.and_eq_true_iff.1 hx
  have h2 := inq_iff.1 h.2
  exact key _ _ (okLen_iff.1 h.1) h2.1 h2.2)⟩

theorem p_make {n : Nat} {α : Type} {X : Option α} (h : n ≤ 4294967296) : (bif (bif (bif (decide ((0 : Int) ≤ (n : Int))) then (decide ((n : Int) ≤ (BIG : Int))) else false) then (decide ((n : Int) = (n : Int))) else false) then X else none) = X := by
  rw [decide_eq_true (show (0 : Int) ≤ (n : Int) by omega), decide_eq_true (show (n : Int) ≤ (BIG : Int) by show (n : Int) ≤ ((4294967296 : Nat) : Int); omega), decide_eq_true rfl]; rfl

theorem s_ltoSpcTestS : C_ltoSpcTestS (fun x => decide (List.length x.1 ≤ 4294967296)) (fun x => (x.1, ())) := S_ltoSpcTestS s_ltoSpcTest fun x hx => ⟨List.length x.1 + 1, (ev_ltoSpcTestS _ x.1).trans (by
  have hx : List.length x.1 ≤ 4294967296 := of_decide_eq_true hx
  rw [p_make hx]
  refine (map_loop (α := MAsk) x.1 (fun y => y) (fun k i out => r_ltoSpcTestS (fun x => (x.1, ())) (x.1, ()) k [false, true, false, true, true] (h0_ltoSpcTestS x.1 (i : Int) out)) (fun k out ho => ?_) (fun k i y r out hd hi ho => ?_) _ ?_).trans ?_
  · rw [rd0_ltoSpcTestS, lt_false (Nat.le_refl _)]; rfl
  · rw [rd0_ltoSpcTestS, in_true hi, in_true (ho.symm ▸ hi), lt_true hi, w_succ (by omega), Int.toNat_natCast, rdL_drop hd]; rfl
  · rw [List.length_replicate]; exact Int.toNat_natCast _
  · rw [List.map_id'])⟩

theorem s_leqDecDec : C_leqDecDec (fun _ => true) (fun x => (same x.1 x.2.1, ())) := S_leqDecDec fun x _ => ⟨0, (ev_leqDecDec 0 x.1 x.2.1).trans (by
  simp only [bif_not, bif_neg, bif_some, bif_pair, bif_and, same_int, Bool.and_true]
  exact congrArg (fun b => some (b, ())) (same_pair _ _ _ _))⟩
theorem s_leqSpcTest : C_leqSpcTest (fun _ => true) (fun x => (same x.1 x.2.1, ())) := S_leqSpcTest s_leqDecDec fun x _ => ⟨0, (ev_leqSpcTest 0 x.1 x.2.1).trans (by
  simp only [bif_not, bif_neg, bif_some, bif_pair, bif_and, same_int, Bool.and_true]
  refine congrArg (fun b => some (b, ())) ?_
  rw [same_pair, same_pair, same_pair])⟩

/-- Two rows of one length, and the loop over them. -/
theorem p_eqS {α : Type} {xs ys : List α} {X : Option (Bool × Unit)} (h : xs.length = ys.length → X = some (same xs ys, ())) : (bif (bif (decide ((xs.length : Int) = (ys.length : Int))) then false else true) then (some (false, ())) else X) = some (same xs ys, ()) := by
  by_cases hl : xs.length = ys.length
  · rw [decide_eq_true (by omega)]; exact h hl
  · rw [decide_eq_false (by omega), same_false fun e => hl (by rw [e])]; rfl

theorem s_leqSpcTestS : C_leqSpcTestS (fun x => decide (List.length x.1 ≤ 4294967296)) (fun x => (same x.1 x.2.1, ())) := S_leqSpcTestS s_leqSpcTest fun x hx => ⟨List.length x.1 + 1, (ev_leqSpcTestS _ x.1 x.2.1).trans (p_eqS fun hl => by
  have hx : List.length x.1 ≤ 4294967296 := of_decide_eq_true hx
  refine eq_loop (α := MAsk) x.1 x.2.1 hl (fun k i => r_leqSpcTestS (fun x => (same x.1 x.2.1, ())) (x.1, x.2.1, ()) k [false, true, false, true, true] (h0_leqSpcTestS x.1 x.2.1 (i : Int))) (fun k => ?_) (fun k i y z r r' hd hd' hi hi' => ?_)
  · rw [rd0_leqSpcTestS, lt_false (Nat.le_refl _)]; rfl
  · rw [rd0_leqSpcTestS, in_true hi, in_true hi', lt_true hi, w_succ (by omega), rdL_drop hd, rdL_drop hd', bif_not, bif_neg]; rfl)⟩

end Go.Proofs.Ytijolcgmciclhaa

set_option linter.unusedVariables false
set_option linter.unusedSimpArgs false
namespace Go.Proofs.Ytijolcgmciclhaa
open Go.Vm

/-- Lists that came in. -/
def wfSpcs (l : List MSpc) : Bool := okLen l.length && l.all (fun s => okLen s.1.length)
end Go.Proofs.Ytijolcgmciclhaa

set_option linter.unusedVariables false
set_option linter.unusedSimpArgs false
namespace Go.Proofs.Ytijolcgmciclhaa
open Go.Vm

theorem beq_dec (a b : MDec) : Sh.beq S_DecDec a b = same a b := by
  show (decide (a.1 = b.1) && decide (a.2 = b.2)) = _
  rw [same_int, same_int, same_pair]

end Go.Proofs.Ytijolcgmciclhaa

set_option linter.unusedVariables false
set_option linter.unusedSimpArgs false
namespace Go.Proofs.Ytijolcgmciclhaa
open Go.Vm

theorem rdLmore {l : List MDec} (h : l ≠ []) : rdL (e := S_DecDec) l (0 : Int) = l.getD 0 (0, 0) := rfl
theorem head_ok {l : List MDec} (h : l ≠ []) (ho : l.all decOk = true) : decOk (l.getD 0 (0, 0)) = true := by
  cases l with
  | nil => exact absurd rfl h
  | cons d r => exact List.all_eq_true.1 ho d List.mem_cons_self
theorem tlPre_iff {t : MTst} : tlPre t = true ↔ tsPre t = true ∧ (t.2.2.2.1 = 1 → t.2.2.2.2 ≠ []) := by
  unfold tlPre
  simp only [Bool.and_eq_true, Bool.or_eq_true, Bool.not_eq_true', decide_eq_false_iff_not, List.isEmpty_eq_false_iff]
  exact ⟨fun h => ⟨h.1, fun e => h.2.resolve_left (fun hn => hn e)⟩, fun h => ⟨h.1, Classical.or_iff_not_imp_left.2 fun hn => h.2 (Classical.not_not.1 hn)⟩⟩
theorem in0_ne {l : List MDec} (h : l ≠ []) : (bif (decide ((0 : Int) ≤ (0 : Int))) then (decide ((0 : Int) < (l.length : Int))) else false) = true := by
  have : 0 < l.length := List.length_pos_iff.2 h
  exact in_true (i := 0) this

theorem p_tell {t : MTst} (h : tlPre t = true) (A B C : Option (MDec × Unit)) (hA : t.2.2.2.2 ≠ [] → A = some (decAt (t.2.2.2.2.getD 0 (0, 0)) t.1.2.2.2, ())) (hB : B = some (decMean (t.2.2.1 :: t.2.2.2.2) t.1.2.2.2, ())) (hC : C = some (decAt t.2.2.1 t.1.2.2.2, ())) :
    (bif (decide (t.2.2.2.1 = (1 : Int))) then (bif (bif (decide ((0 : Int) ≤ (0 : Int))) then (decide ((0 : Int) < (t.2.2.2.2.length : Int))) else false) then A else none) else (bif (decide (t.2.2.2.1 = (2 : Int))) then (bif (fitL [t.2.2.1] t.2.2.2.2) then B else none) else C)) = some (tell t, ()) := by
  obtain ⟨h1, h2⟩ := tlPre_iff.1 h
  obtain ⟨_, _, _, h3⟩ := tsPre_iff.1 h1
  unfold tell
  by_cases c1 : t.2.2.2.1 = 1
  · rw [decide_eq_true c1, if_pos c1, in0_ne (h2 c1), hA (h2 c1)]; rfl
  · rw [decide_eq_false c1, if_neg c1]
    by_cases c2 : t.2.2.2.1 = 2
    · rw [decide_eq_true c2, if_pos c2, fitL_eq (by simp; omega), hB]; rfl
    · rw [decide_eq_false c2, if_neg c2, hC]; rfl

theorem tl_of {t : MTst} (h : tsPre t = true) (hn : ¬ (t.2.2.2.2.length : Int) < need t.2.2.2.1) : tlPre t = true := by
  refine tlPre_iff.2 ⟨h, fun e hne => ?_⟩
  rw [hne, e] at hn
  exact hn (by decide)

theorem p_state {t : MTst} (A : Option (Int × Unit)) (h3 : t.2.2.2.1 ≠ 3) (hA : ¬ (t.2.2.2.2.length : Int) < need t.2.2.2.1 → A = some (if passes t = true then 3 else 4, ())) (h0 : t.2.2.2.1 ≠ 0) :
    (bif (decide ((t.2.2.2.2.length : Int) < need t.2.2.2.1)) then (some ((2 : Int), ())) else A) = some (stateOf t, ()) := by
  unfold stateOf
  rw [if_neg h0, if_neg h3]
  by_cases hn : (t.2.2.2.2.length : Int) < need t.2.2.2.1
  · rw [decide_eq_true hn, if_pos hn]; rfl
  · rw [decide_eq_false hn, if_neg hn, hA hn]; rfl

theorem p_okB (t : MTst) (A : Option (Bool × Unit)) (hA : t.2.1 ≠ 0 → A = some (decide (t.2.1 = stateOf t) && (decide (t.2.2.2.1 = 0) || !spcIn t.1 t.2.2.1), ())) :
    (bif (decide (t.2.1 = (0 : Int))) then (bif (Sh.beq S_DecDec t.2.2.1 ((0 : Int), (0 : Int))) then (some ((decide (t.2.2.2.1 = (0 : Int))), ())) else (some (false, ()))) else A) = some (tstOkB t, ()) := by
  rw [beq_dec]
  unfold tstOkB
  by_cases h : t.2.1 = 0
  · rw [decide_eq_true h]
    cases same t.2.2.1 ((0 : Int), (0 : Int)) <;> rfl
  · rw [decide_eq_false h, hA h]; rfl
theorem p_okB2 (t : MTst) : (bif (decide (t.2.1 = stateOf t)) then (bif (decide (t.2.2.2.1 = (0 : Int))) then (some (true, ())) else (some ((bif spcIn t.1 t.2.2.1 then false else true), ()))) else (some (false, ()))) = some (decide (t.2.1 = stateOf t) && (decide (t.2.2.2.1 = 0) || !spcIn t.1 t.2.2.1), ()) := by
  cases decide (t.2.1 = stateOf t) <;> cases decide (t.2.2.2.1 = 0) <;> cases spcIn t.1 t.2.2.1 <;> rfl
theorem p_tstTell (t : MTst) (A : Option (MDec × Bool × Unit)) (hA : tstOk t = true → (t.2.1 = 3 ∨ t.2.1 = 4) → A = some (tell t, true, ())) :
    (bif (bif tstOk t then false else true) then (some (((0 : Int), (0 : Int)), (false, ()))) else (bif (bif (decide (t.2.1 = (3 : Int))) then false else true) then (bif (bif (decide (t.2.1 = (4 : Int))) then false else true) then (some (((0 : Int), (0 : Int)), (false, ()))) else A) else A)) =
    some (bif tstOk t && (decide (t.2.1 = 3) || decide (t.2.1 = 4)) then (tell t, true, ()) else ((0, 0), false, ())) := by
  cases h : tstOk t
  · rfl
  · by_cases h3 : t.2.1 = 3
    · rw [decide_eq_true h3, hA h (.inl h3)]; rfl
    · by_cases h4 : t.2.1 = 4
      · rw [decide_eq_true h4, decide_eq_false h3, hA h (.inr h4)]; rfl
      · rw [decide_eq_false h4, decide_eq_false h3]; rfl
/-- A test that is settled can be told. -/
theorem settled_tl {t : MTst} (h : tstOk t = true) (hs : t.2.1 = 3 ∨ t.2.1 = 4) : tlPre t = true := by
  unfold tstOk at h
  obtain ⟨hA, hB⟩ := Bool.and_eq_true_iff.1 h
  have hp := tsPre_of hA
  have h0 : t.2.1 ≠ 0 := by omega
  unfold tstOkB at hB
  rw [decide_eq_false h0, cond_false, Bool.and_eq_true] at hB
  have he : t.2.1 = stateOf t := of_decide_eq_true hB.1
  refine tlPre_iff.2 ⟨hp, fun c1 hne => ?_⟩
  unfold stateOf at he
  rw [c1, hne] at he
  simp only [List.length_nil, if_neg (show ¬ (1 : Int) = 0 by decide), if_neg (show ¬ (1 : Int) = 3 by decide), need, if_true] at he
  rw [if_pos (by decide)] at he
  omega
end Go.Proofs.Ytijolcgmciclhaa

set_option linter.unusedVariables false
set_option linter.unusedSimpArgs false
namespace Go.Proofs.Ytijolcgmciclhaa
open Go.Vm

theorem p_szLen (n : Nat) (l : Int) (h1 : n ≤ 9223372036854775807) (h2 : 0 ≤ l) (h3 : l ≤ 1048576) : (bif (decide ((w64 (l - (n : Int))) < (0 : Int))) then (some ((-1 : Int), ())) else (some ((w64 (l - (n : Int))), ()))) = some (if l < (n : Int) then -1 else l - (n : Int), ()) := by
  rw [w64_eq (by omega) (by omega)]
  by_cases h : l < n
  · rw [if_pos h, decide_eq_true (by omega)]; rfl
  · rw [if_neg h, decide_eq_false (by omega)]; rfl
theorem p_szPass (n : Nat) (l : Int) (h : 0 ≤ l) : (bif decide ((if l < (n : Int) then -1 else l - (n : Int)) < (0 : Int)) then (some ((-1 : Int), ())) else (some ((if l < (n : Int) then -1 else l - (n : Int)), ()))) = some ((if l < (n : Int) then -1 else l - (n : Int)), ()) := by
  by_cases h1 : l < (n : Int)
  · rw [if_pos h1]; rfl
  · rw [if_neg h1, decide_eq_false (by omega)]; rfl
/-- What is left behind so many. -/
def szN (n : Nat) (l : Int) : Int := if l < (n : Int) then -1 else l - (n : Int)
theorem szN_small {n : Nat} {l : Int} (h : l ≤ 1048576) (h2 : ¬ szN n l < 0) : n ≤ 1048576 := by
  unfold szN at h2; split at h2 <;> omega

theorem s_leqDecDecS : C_leqDecDecS (fun x => decide (List.length x.1 ≤ 4294967296)) (fun x => (same x.1 x.2.1, ())) := S_leqDecDecS s_leqDecDec fun x hx => ⟨List.length x.1 + 1, (ev_leqDecDecS _ x.1 x.2.1).trans (p_eqS fun hl => by
  have hx : List.length x.1 ≤ 4294967296 := of_decide_eq_true hx
  refine eq_loop (α := MDec) x.1 x.2.1 hl (fun k i => r_leqDecDecS (fun x => (same x.1 x.2.1, ())) (x.1, x.2.1, ()) k [false, true, false, true, true] (h0_leqDecDecS x.1 x.2.1 (i : Int))) (fun k => ?_) (fun k i y z r r' hd hd' hi hi' => ?_)
  · rw [rd0_leqDecDecS, lt_false (Nat.le_refl _)]; rfl
  · rw [rd0_leqDecDecS, in_true hi, in_true hi', lt_true hi, w_succ (by omega), rdL_drop hd, rdL_drop hd', bif_not, bif_neg]; rfl)⟩
theorem s_leqTstTest : C_leqTstTest (fun x => decide (List.length x.1.2.2.2.2 ≤ 4294967296)) (fun x => (same x.1 x.2.1, ())) := S_leqTstTest s_leqSpcTest s_leqDecDec s_leqDecDecS fun x hx => ⟨0, (ev_leqTstTest 0 x.1 x.2.1).trans (by
  have hx : decide (List.length x.1.2.2.2.2 ≤ 4294967296) = true := hx
  simp only [hx, cond_true, bif_not, bif_neg, bif_some, bif_pair, bif_and, same_int, Bool.and_true]
  refine congrArg (fun b => some (b, ())) ?_
  rw [same_pair, same_pair, same_pair, same_pair])⟩

end Go.Proofs.Ytijolcgmciclhaa

set_option linter.unusedVariables false
set_option linter.unusedSimpArgs false
namespace Go.Proofs.Ytijolcgmciclhaa
open Go.Vm

noncomputable def spcFind (l : List MAsk) (n : Int) : MAsk × Bool := bif decide (idxOf (fun t : MAsk => decide (t.1 = n)) l 0 < 0) then ((0, (0, 0), (0, 0), 0), false) else (rdL (e := S_SpcTest) l (idxOf (fun t : MAsk => decide (t.1 = n)) l 0), true)
theorem s_iTstNew : C_iTstNew (fun _ => true) (fun x => ((x.1, 0, (0, 0), 0, []), ())) := S_iTstNew fun x _ => ⟨0, ev_iTstNew 0 x.1⟩
theorem s_sTstNew : C_sTstNew (fun _ => true) (fun x => ((x.1, 0, (0, 0), 0, []), ())) := S_sTstNew fun x _ => ⟨0, ev_sTstNew 0 x.1⟩

theorem beq_ask (a b : MAsk) : Sh.beq S_SpcTest a b = same a b := by
  show (decide (a.1 = b.1) && ((decide (a.2.1.1 = b.2.1.1) && decide (a.2.1.2 = b.2.1.2)) && ((decide (a.2.2.1.1 = b.2.2.1.1) && decide (a.2.2.1.2 = b.2.2.1.2)) && decide (a.2.2.2 = b.2.2.2)))) = _
  simp only [same_int, same_pair]
end Go.Proofs.Ytijolcgmciclhaa

set_option linter.unusedVariables false
set_option linter.unusedSimpArgs false
namespace Go.Proofs.Ytijolcgmciclhaa
open Go.Vm

theorem rd_spc (l : List MSpc) (k : Int) : rdL (e := S_SpcSpec) l k = l.getD k.toNat ([], 0) := rfl
end Go.Proofs.Ytijolcgmciclhaa

set_option linter.unusedVariables false
set_option linter.unusedSimpArgs false
namespace Go.Proofs.Ytijolcgmciclhaa
open Go.Vm
theorem rdL_set {S : Sh} {l : List S.den} {i : Nat} {x : S.den} (h : i < l.length) : rdL (e := S) (l.set i x) (i : Int) = x := by
  unfold rdL
  rw [Int.toNat_natCast, List.getD_eq_getElem?_getD, List.getElem?_set_self h]; rfl
theorem s_lmarkSpcTestS : C_lmarkSpcTestS (fun x => mkPre (szL (fun _ => 6)) x.1 x.2.1) (fun x => ((markL mkAsk x.1 x.2.1).2, ((markL mkAsk x.1 x.2.1).1, ()))) := S_lmarkSpcTestS fun x hx => ⟨List.length x.1 + 1, (ev_lmarkSpcTestS _ x.1 x.2.1).trans (by
  obtain ⟨h1, h2⟩ := mkPre_iff.1 hx
  have hl : List.length x.1 ≤ szL (fun _ => 6) x.1 := szL_len (fun _ => by decide) x.1
  refine mark_loop (α := MAsk) (mk := mkAsk) (sz := fun _ => 6) mkAsk_ok.go x.1 4294967296 (fun c out => some (c, (out, ()))) (fun k i c out => r_lmarkSpcTestS (x.1, x.2.1, ()) k [false, true, false, true] (h0_lmarkSpcTestS x.1 x.2.1 c (i : Int) out)) (fun k c out ho => ?_) (fun k i y r c out hd hi ho h0 hB => ?_) x.2.1 h1 h2
  · rw [rd0_lmarkSpcTestS]
    try simp only [lt_eq]
    rw [lt_false (show out.length ≤ List.length x.1 by omega)]; rfl
  · have hi' : i < out.length := by omega
    have hB : c + 6 ≤ 4294967296 := hB
    rw [rd0_lmarkSpcTestS]
    have hr : ∀ y : MAsk, rdL (e := S_SpcTest) (out.set i y) (i : Int) = y := fun y => rdL_set hi'
    have h0i : decide ((0 : Int) ≤ (i : Int)) = true := decide_eq_true (by omega)
    simp only [lt_eq, Int.toNat_natCast, List.length_set, hr, List.set_set, h0i, lt_true hi', cond_true, w_succ (show i ≤ 4294967296 by omega)]
    rw [w64_eq (x := c + 1) (by omega) (by omega), w64_eq (x := c + 1 + 1) (by omega) (by omega), w64_eq (x := c + 1 + 1 + 1) (by omega) (by omega), w64_eq (x := c + 1 + 1 + 1 + 1) (by omega) (by omega), w64_eq (x := c + 1 + 1 + 1 + 1 + 1) (by omega) (by omega), w64_eq (x := c + 1 + 1 + 1 + 1 + 1 + 1) (by omega) (by omega)]
    rfl)⟩
theorem s_lmarkDecDecS : C_lmarkDecDecS (fun x => mkPre (szL (fun _ => 2)) x.1 x.2.1) (fun x => ((markL mkDec x.1 x.2.1).2, ((markL mkDec x.1 x.2.1).1, ()))) := S_lmarkDecDecS fun x hx => ⟨List.length x.1 + 1, (ev_lmarkDecDecS _ x.1 x.2.1).trans (by
  obtain ⟨h1, h2⟩ := mkPre_iff.1 hx
  have hl : List.length x.1 ≤ szL (fun _ => 2) x.1 := szL_len (fun _ => by decide) x.1
  refine mark_loop (α := MDec) (mk := mkDec) (sz := fun _ => 2) mkDec_ok.go x.1 4294967296 (fun c out => some (c, (out, ()))) (fun k i c out => r_lmarkDecDecS (x.1, x.2.1, ()) k [false, true, false, true] (h0_lmarkDecDecS x.1 x.2.1 c (i : Int) out)) (fun k c out ho => ?_) (fun k i y r c out hd hi ho h0 hB => ?_) x.2.1 h1 h2
  · rw [rd0_lmarkDecDecS]
    try simp only [lt_eq]
    rw [lt_false (show out.length ≤ List.length x.1 by omega)]; rfl
  · have hi' : i < out.length := by omega
    have hB : c + 2 ≤ 4294967296 := hB
    rw [rd0_lmarkDecDecS]
    have hr : ∀ y : MDec, rdL (e := S_DecDec) (out.set i y) (i : Int) = y := fun y => rdL_set hi'
    have h0i : decide ((0 : Int) ≤ (i : Int)) = true := decide_eq_true (by omega)
    simp only [lt_eq, Int.toNat_natCast, List.length_set, hr, List.set_set, h0i, lt_true hi', cond_true, w_succ (show i ≤ 4294967296 by omega)]
    rw [w64_eq (x := c + 1) (by omega) (by omega), w64_eq (x := c + 1 + 1) (by omega) (by omega)]
    rfl)⟩
theorem s_lheldDecDecS : C_lheldDecDecS (fun x => mkPre (szL (fun _ => 2)) x.1 x.2.1) (fun x => (hdOf (markL mkDec) x.1 x.2.1, ())) := S_lheldDecDecS fun x hx => ⟨List.length x.1 + 1, (ev_lheldDecDecS _ x.1 x.2.1).trans (by
  obtain ⟨h1, h2⟩ := mkPre_iff.1 hx
  have hl : List.length x.1 ≤ szL (fun _ => 2) x.1 := szL_len (fun _ => by decide) x.1
  refine held_loop (α := MDec) (mk := mkDec) (sz := fun _ => 2) mkDec_ok x.1 4294967296 (fun k i c => r_lheldDecDecS (x.1, x.2.1, ()) k [false, true, false, true] (h0_lheldDecDecS x.1 x.2.1 c (i : Int))) (fun k c => ?_) (fun k i y r c hd hi h0 hB => ?_) x.2.1 h1 h2
  · rw [rd0_lheldDecDecS]
    try simp only [lt_eq]
    rw [lt_false (Nat.le_refl _)]; rfl
  · have hB : c + 2 ≤ 4294967296 := hB
    rw [rd0_lheldDecDecS]
    have h0i : decide ((0 : Int) ≤ (i : Int)) = true := decide_eq_true (by omega)
    simp only [lt_eq, h0i, lt_true hi, cond_true, w_succ (show i ≤ 4294967296 by omega), rdL_drop hd]
    rw [w64_eq (x := c + 1) (by omega) (by omega), w64_eq (x := c + 1 + 1) (by omega) (by omega)]
    unfold mkDec
    simp only [same_pr, same_int]
    cases same y.1 c <;> cases same y.2 (c + 1) <;> rfl)⟩
end Go.Proofs.Ytijolcgmciclhaa

set_option linter.unusedVariables false
set_option linter.unusedSimpArgs false
namespace Go.Proofs.Ytijolcgmciclhaa
open Go.Vm
def smT (t : MTst) : Bool := decide (t.2.2.2.2.length ≤ 4294967296)
theorem p_clone {α : Type} (l : List α) (hl : l.length ≤ 4294967296) : (bif (List.isEmpty l) then (agree (some (([] : List α), ())) (bif (fitL [] l) then (some ((List.append [] l), ())) else none)) else (bif (fitL [] l) then (some ((List.append [] l), ())) else none)) = some (l, ()) := by
  rw [fitL_eq (by show 0 + l.length ≤ _; omega)]
  cases l with
  | nil => unfold agree; exact if_pos rfl
  | cons a r => rfl
theorem p_turn {β : Type} (a b c : Bool) (A B : β) : (bif (bif a then false else true) then B else (bif (bif b then false else true) then B else (bif (bif c then false else true) then B else A))) = bif a && (b && c) then A else B := by
  cases a <;> cases b <;> cases c <;> rfl
theorem ok_len {t : MTst} (h : tstOk t = true) : t.2.2.2.2.length ≤ 2 := (tsPre_iff.1 (tsPre_of (tstOk_iff.1 h).1)).2.2.2
end Go.Proofs.Ytijolcgmciclhaa

set_option linter.unusedVariables false
set_option linter.unusedSimpArgs false
namespace Go.Proofs.Ytijolcgmciclhaa
open Go.Vm
theorem smT_of {t : MTst} {n : Nat} (h : List.length t.2.2.2.2 ≤ n) (hn : n ≤ 4294967296) : smT t = true := decide_eq_true (Nat.le_trans h hn)
end Go.Proofs.Ytijolcgmciclhaa

set_option linter.unusedVariables false
set_option linter.unusedSimpArgs false
namespace Go.Proofs.Ytijolcgmciclhaa
open Go.Vm
theorem p_batNew {k n : Int} {l : List MAsk} (A : Option (MBat × Unit)) (hA : inq k 0 5 = true → testsOk l = true → inq n 1 10000 = true → A = some ((k, n, l.map newT, 1, [], []), ())) :
    (bif (bif inq k 0 5 then false else true) then (some (((0 : Int), ((0 : Int), ([], ((0 : Int), ([], []))))), ())) else (bif (bif testsOk l then false else true) then (some (((0 : Int), ((0 : Int), ([], ((0 : Int), ([], []))))), ())) else (bif (bif inq n 1 10000 then false else true) then (some (((0 : Int), ((0 : Int), ([], ((0 : Int), ([], []))))), ())) else A))) = some (batNew k l n, ()) := by
  unfold batNew
  cases h1 : inq k 0 5
  · rfl
  · cases h2 : testsOk l
    · rfl
    · cases h3 : inq n 1 10000
      · rfl
      · exact hA h1 h2 h3
theorem s_iBatNew : C_iBatNew (fun x => smA x.2.1) (fun x => (batNew x.1 x.2.1 x.2.2.1, ())) := S_iBatNew s_iin s_iSpcTestsOk s_iTstNew fun x hx => ⟨List.length x.2.1 + 1, (ev_iBatNew _ x.1 x.2.1 x.2.2.1).trans (by
  obtain ⟨k, l, n, u⟩ := x
  change List MAsk at l
  have hx : decide (List.length l ≤ 4294967296) = true := hx
  have hl : List.length l ≤ 4294967296 := of_decide_eq_true hx
  simp only [cl, hx, cond_true]
  refine p_batNew (l := l) _ fun h1 h2 h3 => ?_
  have := list_loop (σ := List MTst) l (fun f i out => r_iBatNew (fun x => (inq x.1 x.2.1 x.2.2.1, ())) (fun x => (testsOk x.1, ())) (fun x => decide (List.length x.1 ≤ 4294967296)) (fun x => ((x.1, 0, (0, 0), 0, []), ())) (k, l, n, ()) f [false, true, false, true, true, true] (h0_iBatNew k l n (List.length l : Int) (i : Int) (0 : Int) (0 : Int) (0 : Int) [] [] [] (1 : Int) out [] [])) (fun r i out => ((k, n, out ++ r.map newT, 1, [], []), ())) (fun i out => out.length = i) (fun f s hs => by
    rw [rd0_iBatNew, lt_false (Nat.le_refl _), List.map_nil, List.append_nil]; rfl) (fun f i y r s hd hi hs => by
    refine .inr ⟨s ++ [newT y], by rw [List.length_append]; show s.length + 1 = i + 1; omega, ?_, by simp⟩
    rw [rd0_iBatNew, in_true hi, lt_true hi, w_succ (by omega), rdL_drop hd, fitL_eq (by show s.length + 1 ≤ _; omega)]; rfl) l.length 0 [] (by omega) rfl
  simpa using this)⟩
theorem s_sBatNew : C_sBatNew (fun x => smA x.2.1) (fun x => (batNew x.1 x.2.1 x.2.2.1, ())) := S_sBatNew s_sl1In s_sSpcTestsOk s_sTstNew fun x hx => ⟨List.length x.2.1 + 1, (ev_sBatNew _ x.1 x.2.1 x.2.2.1).trans (by
  obtain ⟨k, l, n, u⟩ := x
  change List MAsk at l
  have hl : List.length l ≤ 4294967296 := of_decide_eq_true hx
  refine p_batNew (l := l) _ fun h1 h2 h3 => ?_
  have := list_loop (σ := List MTst) l (fun f i out => r_sBatNew (fun x => (inq x.1 x.2.1 x.2.2.1, ())) (fun x => (testsOk x.1, ())) (fun x => ((x.1, 0, (0, 0), 0, []), ())) (k, l, n, ()) f [false, true, false, true, true, true] (h0_sBatNew k l n (i : Int) (0 : Int) (0 : Int) (0 : Int) [] [] [] (1 : Int) out [] [])) (fun r i out => ((k, n, out ++ r.map newT, 1, [], []), ())) (fun i out => out.length = i) (fun f s hs => by
    rw [rd0_sBatNew, lt_false (Nat.le_refl _), List.map_nil, List.append_nil]; rfl) (fun f i y r s hd hi hs => by
    refine .inr ⟨s ++ [newT y], by rw [List.length_append]; show s.length + 1 = i + 1; omega, ?_, by simp⟩
    rw [rd0_sBatNew, in_true hi, lt_true hi, w_succ (by omega), rdL_drop hd, fitL_eq (by show s.length + 1 ≤ _; omega)]; rfl) l.length 0 [] (by omega) rfl
  simpa using this)⟩
theorem beq_sig (a b : MSig) : Sh.beq S_BatSig a b = same a b := by
  show (decide (a.1 = b.1) && (decide (a.2.1 = b.2.1) && decide (a.2.2 = b.2.2))) = _
  simp only [same_int, same_pair]
theorem beq_bool (a b : Bool) : (a == b) = same a b := by
  cases a <;> cases b <;> first | exact (same_self _).symm | exact (same_false (by decide)).symm
theorem same_bat (a b : MBat) : same a b = (same a.1 b.1 && (same a.2.1 b.2.1 && (same a.2.2.2.1 b.2.2.2.1 && (same a.2.2.1 b.2.2.1 && (same a.2.2.2.2.1 b.2.2.2.2.1 && same a.2.2.2.2.2 b.2.2.2.2.2))))) := by
  rw [show same a b = same (a.1, a.2.1, a.2.2.1, a.2.2.2.1, a.2.2.2.2.1, a.2.2.2.2.2) (b.1, b.2.1, b.2.2.1, b.2.2.2.1, b.2.2.2.2.1, b.2.2.2.2.2) from rfl, ← same_pair, ← same_pair, ← same_pair, ← same_pair, ← same_pair]
  cases same a.1 b.1 <;> cases same a.2.1 b.2.1 <;> cases same a.2.2.1 b.2.2.1 <;> cases same a.2.2.2.1 b.2.2.2.1 <;> rfl
theorem mixPre_of {m : Int} {l : List Int} (h : mkR m) (hl : l.length ≤ 4) : mixPre m l = true := mixPre_iff.2 ⟨h, by omega⟩
theorem foldI_mores : ∀ (l : List MDec) (i : Nat) (m : Int), foldI (fun _ m (v : MDec) => mix (mix m v.1) v.2) i m l = markMore m l
  | [], i, m => rfl
  | v :: r, i, m => foldI_mores r (i + 1) _
theorem foldI_tsts : ∀ (l : List MTst) (i : Nat) (m : Int), foldI (fun _ m t => markTst m t) i m l = markTsts m l
  | [], i, m => rfl
  | v :: r, i, m => foldI_tsts r (i + 1) _
theorem foldI_devs : ∀ (l : List Bool) (i : Nat) (m : Int), foldI (fun i m d => markDev m i d) i m l = markDevs i m l
  | [], i, m => rfl
  | v :: r, i, m => foldI_devs r (i + 1) _
theorem okA_smB {b : MBat} (h1 : inq b.2.2.1.length 1 4 = true) (ht : b.2.2.1.all tstOk = true) (hs : b.2.2.2.2.1.length ≤ 6) (hd : b.2.2.2.2.2.length ≤ 3) : smB b = true := by
  have := inq_iff.1 h1
  refine smB_iff.2 ⟨by omega, fun t hm => ?_, by omega, by omega⟩
  have := tstOk_len (List.all_eq_true.1 ht t hm)
  omega
end Go.Proofs.Ytijolcgmciclhaa

set_option linter.unusedVariables false
set_option linter.unusedSimpArgs false
namespace Go.Proofs.Ytijolcgmciclhaa
open Go.Vm
/-- Where a letter stands in a word. -/
def wordAt (s w : ByteArray) : Int := bif s.data.toList == w.data.toList then 0 else Go.Lib.indexByte s.data.toList (strAt w 0).toNat.toUInt8
def one1 (w : ByteArray) : Bool := decide (w.data.toList.length = 1)
theorem one_size {w : ByteArray} (h : one1 w = true) : ByteArray.size w = 1 := by
  have h : w.data.toList.length = 1 := of_decide_eq_true h
  rw [← h]; rfl
abbrev MMan : Type := ByteArray × List Int × ByteArray
def by0 : ByteArray := ByteArray.mk (Array.mk [])
def mans : List MMan := [((ByteArray.mk (Array.mk [])), ([], (ByteArray.mk (Array.mk [])))), ((ByteArray.mk (Array.mk [(100 : UInt8), (114 : UInt8), (97 : UInt8), (102 : UInt8), (116 : UInt8)])), ([(4 : Int)], (ByteArray.mk (Array.mk [])))), ((ByteArray.mk (Array.mk [(114 : UInt8), (97 : UInt8), (105 : UInt8), (115 : UInt8), (101 : UInt8)])), ([(4 : Int)], (ByteArray.mk (Array.mk [(78 : UInt8)])))), ((ByteArray.mk (Array.mk [(116 : UInt8), (97 : UInt8), (107 : UInt8), (101 : UInt8)])), ([(1 : Int), (2 : Int)], (ByteArray.mk (Array.mk [(78 : UInt8)])))), ((ByteArray.mk (Array.mk [(112 : UInt8), (117 : UInt8), (116 : UInt8)])), ([(1 : Int), (2 : Int)], (ByteArray.mk (Array.mk [(66 : UInt8), (84 : UInt8), (86 : UInt8)])))), ((ByteArray.mk (Array.mk [(99 : UInt8), (97 : UInt8), (117 : UInt8), (115 : UInt8), (101 : UInt8)])), ([(2 : Int), (3 : Int)], (ByteArray.mk (Array.mk [(66 : UInt8), (84 : UInt8), (78 : UInt8)])))), ((ByteArray.mk (Array.mk [(109 : UInt8), (111 : UInt8), (114 : UInt8), (101 : UInt8)])), ([(1 : Int), (2 : Int)], (ByteArray.mk (Array.mk [(66 : UInt8), (84 : UInt8), (86 : UInt8)])))), ((ByteArray.mk (Array.mk [(111 : UInt8), (112 : UInt8), (101 : UInt8), (110 : UInt8)])), ([(1 : Int), (2 : Int)], (ByteArray.mk (Array.mk [(66 : UInt8)])))), ((ByteArray.mk (Array.mk [(99 : UInt8), (108 : UInt8), (111 : UInt8), (115 : UInt8), (101 : UInt8)])), ([(2 : Int), (3 : Int)], (ByteArray.mk (Array.mk [(66 : UInt8), (78 : UInt8)])))), ((ByteArray.mk (Array.mk [(115 : UInt8), (105 : UInt8), (103 : UInt8), (110 : UInt8)])), ([(2 : Int), (3 : Int)], (ByteArray.mk (Array.mk [(66 : UInt8)])))), ((ByteArray.mk (Array.mk [(102 : UInt8), (114 : UInt8), (101 : UInt8), (101 : UInt8)])), ([(3 : Int)], (ByteArray.mk (Array.mk [(66 : UInt8)])))), ((ByteArray.mk (Array.mk [(114 : UInt8), (101 : UInt8), (102 : UInt8), (117 : UInt8), (115 : UInt8), (101 : UInt8)])), ([(3 : Int)], (ByteArray.mk (Array.mk [(66 : UInt8)])))), ((ByteArray.mk (Array.mk [(114 : UInt8), (101 : UInt8), (99 : UInt8), (97 : UInt8), (108 : UInt8), (108 : UInt8)])), ([(3 : Int)], (ByteArray.mk (Array.mk [(66 : UInt8)]))))]
def manOf (k : Int) : MMan := if inq k 1 12 = true then mans.getD k.toNat (by0, [], by0) else (by0, [], by0)
theorem kinds {k : Int} (h : inq k 1 12 = true) : k = 1 ∨ k = 2 ∨ k = 3 ∨ k = 4 ∨ k = 5 ∨ k = 6 ∨ k = 7 ∨ k = 8 ∨ k = 9 ∨ k = 10 ∨ k = 11 ∨ k = 12 := by
  have := inq_iff.1 h; omega
/-- What is known of a kind. -/
theorem man_word (k : Int) : (ByteArray.toList (manOf k).1 == ByteArray.toList by0) = !inq k 1 12 := by
  rw [ByteArray.toList_eq, ByteArray.toList_eq]
  cases h : inq k 1 12
  · unfold manOf; rw [h]; rfl
  · rcases kinds h with rfl | rfl | rfl | rfl | rfl | rfl | rfl | rfl | rfl | rfl | rfl | rfl <;> rfl
theorem man_has (k : Int) : decide (0 ≤ wordAt (manOf k).2.2 (ByteArray.mk (Array.mk [(66 : UInt8)]))) = hasB k ∧ decide (0 ≤ wordAt (manOf k).2.2 (ByteArray.mk (Array.mk [(78 : UInt8)]))) = hasN k ∧ decide (0 ≤ wordAt (manOf k).2.2 (ByteArray.mk (Array.mk [(86 : UInt8)]))) = hasV k ∧ decide (0 ≤ wordAt (manOf k).2.2 (ByteArray.mk (Array.mk [(84 : UInt8)]))) = hasT k := by
  cases h : inq k 1 12
  · have h' : ¬ (1 ≤ k ∧ k ≤ 12) := fun h2 => by rw [inq_iff.2 h2] at h; cases h
    have e : manOf k = (by0, [], by0) := by unfold manOf; rw [h]; rfl
    have b1 : hasB k = false := by unfold hasB; refine Bool.eq_false_iff.2 fun h2 => ?_; have := inq_iff.1 h2; omega
    have b2 : hasT k = false := by unfold hasT; refine Bool.eq_false_iff.2 fun h2 => ?_; have := inq_iff.1 h2; omega
    have b3 : hasN k = false := by unfold hasN; rw [decide_eq_false (by omega), decide_eq_false (by omega), decide_eq_false (by omega), decide_eq_false (by omega)]; rfl
    have b4 : hasV k = false := by unfold hasV; rw [decide_eq_false (by omega), decide_eq_false (by omega)]; rfl
    rw [e, b1, b2, b3, b4]
    exact ⟨rfl, rfl, rfl, rfl⟩
  · rcases kinds h with rfl | rfl | rfl | rfl | rfl | rfl | rfl | rfl | rfl | rfl | rfl | rfl <;> exact ⟨rfl, rfl, rfl, rfl⟩
theorem bif_let {c : Bool} {a b : Bool} : (bif c then (some (a, ())) else (some (b, ())) : Option (Bool × Unit)) = some (bif c then a else b, ()) := by cases c <;> rfl
theorem same_req (a b : MReq) : same a b = (same a.1 b.1 && (same a.2.1 b.2.1 && (same a.2.2.1 b.2.2.1 && (same a.2.2.2.1 b.2.2.2.1 && (same a.2.2.2.2.1 b.2.2.2.2.1 && (same a.2.2.2.2.2.1 b.2.2.2.2.2.1 && same a.2.2.2.2.2.2 b.2.2.2.2.2.2)))))) := by
  rw [show same a b = same (a.1, a.2.1, a.2.2.1, a.2.2.2.1, a.2.2.2.2.1, a.2.2.2.2.2.1, a.2.2.2.2.2.2) (b.1, b.2.1, b.2.2.1, b.2.2.2.1, b.2.2.2.2.1, b.2.2.2.2.2.1, b.2.2.2.2.2.2) from rfl, ← same_pair, ← same_pair, ← same_pair, ← same_pair, ← same_pair, ← same_pair]
/-- A request in the form of its kind. -/
def form8 (r : MReq) : MReq :=
  if r.2.1 = 1 then (r.1, r.2.1, 0, 0, 0, (0, 0), r.2.2.2.2.2.2) else if r.2.1 = 2 then (r.1, r.2.1, 0, 0, r.2.2.2.2.1, (0, 0), []) else if r.2.1 = 3 then (r.1, r.2.1, 0, 0, r.2.2.2.2.1, (0, 0), [])
  else if r.2.1 = 4 then (r.1, r.2.1, r.2.2.1, r.2.2.2.1, 0, r.2.2.2.2.2.1, []) else if r.2.1 = 6 then (r.1, r.2.1, r.2.2.1, r.2.2.2.1, 0, r.2.2.2.2.2.1, []) else if r.2.1 = 5 then (r.1, r.2.1, r.2.2.1, r.2.2.2.1, r.2.2.2.2.1, (0, 0), [])
  else if r.2.1 = 8 then (r.1, r.2.1, r.2.2.1, 0, r.2.2.2.2.1, (0, 0), []) else (r.1, r.2.1, r.2.2.1, 0, 0, (0, 0), [])
theorem bif_if {α : Type} {p : Prop} [Decidable p] {a b c : α} (hb : p → a = c) (hb2 : ¬ p → b = c) : (bif decide p then a else b) = c := by
  by_cases h : p
  · rw [decide_eq_true h]; exact hb h
  · rw [decide_eq_false h]; exact hb2 h
/-- It is in the form just if what it does not have is nothing. -/
theorem form_eq (r : MReq) : same r (form8 r) = ((decide (r.2.2.1 = 0) || hasB r.2.1 || (!inq r.2.1 1 12)) && (decide (r.2.2.2.2.1 = 0) || hasN r.2.1) && (same r.2.2.2.2.2.1 (0, 0) || hasV r.2.1) && (decide (r.2.2.2.1 = 0) || hasT r.2.1) && (decide (r.2.1 = 1) || decide (r.2.2.2.2.2.2.length = 0))) := by
  obtain ⟨u, k, b, t, n, v, l⟩ := r
  have hl : same l [] = decide (l.length = 0) := by
    cases l with
    | nil => rw [same_self]; rfl
    | cons a r => rw [same_false (by simp)]; rfl
  have h0 : ∀ x : Int, same x 0 = decide (x = 0) := fun x => (same_int x 0).symm
  show same ((u, k, b, t, n, v, l) : MReq) (form8 (u, k, b, t, n, v, l)) = ((decide (b = 0) || hasB k || (!inq k 1 12)) && (decide (n = 0) || hasN k) && (same v (0, 0) || hasV k) && (decide (t = 0) || hasT k) && (decide (k = 1) || decide (l.length = 0)))
  cases hk : inq k 1 12
  · have h' : ¬ (1 ≤ k ∧ k ≤ 12) := fun h2 => by rw [inq_iff.2 h2] at hk; cases hk
    have b2 : hasT k = false := by unfold hasT; refine Bool.eq_false_iff.2 fun h2 => ?_; have := inq_iff.1 h2; omega
    have b3 : hasN k = false := by unfold hasN; rw [decide_eq_false (by omega), decide_eq_false (by omega), decide_eq_false (by omega), decide_eq_false (by omega)]; rfl
    have b4 : hasV k = false := by unfold hasV; rw [decide_eq_false (by omega), decide_eq_false (by omega)]; rfl
    have e : form8 (u, k, b, t, n, v, l) = (u, k, b, 0, 0, (0, 0), []) := by
      unfold form8
      rw [if_neg (show ¬ k = 1 by omega), if_neg (show ¬ k = 2 by omega), if_neg (show ¬ k = 3 by omega), if_neg (show ¬ k = 4 by omega), if_neg (show ¬ k = 6 by omega), if_neg (show ¬ k = 5 by omega), if_neg (show ¬ k = 8 by omega)]
    rw [e, b2, b3, b4, decide_eq_false (show ¬ k = 1 by omega), same_req]
    simp only [same_self, h0, hl, Bool.true_and, Bool.not_false, Bool.or_true, Bool.or_false, Bool.false_or]
    cases decide (t = 0) <;> cases decide (n = 0) <;> cases same v (0, 0) <;> cases decide (l.length = 0) <;> rfl
  · rcases kinds hk with rfl | rfl | rfl | rfl | rfl | rfl | rfl | rfl | rfl | rfl | rfl | rfl
    · have e : form8 (u, 1, b, t, n, v, l) = (u, 1, 0, 0, 0, (0, 0), l) := rfl
      rw [e, same_req]
      show (same u u && (same (1 : Int) 1 && (same b 0 && (same t 0 && (same n 0 && (same v (0, 0) && same l l)))))) = ((decide (b = 0) || false || (!true)) && (decide (n = 0) || false) && (same v (0, 0) || false) && (decide (t = 0) || false) && (true || decide (l.length = 0)))
      simp only [same_self, h0, hl]
      cases decide (b = 0) <;> cases decide (t = 0) <;> cases decide (n = 0) <;> cases same v (0, 0) <;> cases decide (l.length = 0) <;> rfl
    · have e : form8 (u, 2, b, t, n, v, l) = (u, 2, 0, 0, n, (0, 0), []) := rfl
      rw [e, same_req]
      show (same u u && (same (2 : Int) 2 && (same b 0 && (same t 0 && (same n n && (same v (0, 0) && same l [])))))) = ((decide (b = 0) || false || (!true)) && (decide (n = 0) || true) && (same v (0, 0) || false) && (decide (t = 0) || false) && (false || decide (l.length = 0)))
      simp only [same_self, h0, hl]
      cases decide (b = 0) <;> cases decide (t = 0) <;> cases decide (n = 0) <;> cases same v (0, 0) <;> cases decide (l.length = 0) <;> rfl
    · have e : form8 (u, 3, b, t, n, v, l) = (u, 3, 0, 0, n, (0, 0), []) := rfl
      rw [e, same_req]
      show (same u u && (same (3 : Int) 3 && (same b 0 && (same t 0 && (same n n && (same v (0, 0) && same l [])))))) = ((decide (b = 0) || false || (!true)) && (decide (n = 0) || true) && (same v (0, 0) || false) && (decide (t = 0) || false) && (false || decide (l.length = 0)))
      simp only [same_self, h0, hl]
      cases decide (b = 0) <;> cases decide (t = 0) <;> cases decide (n = 0) <;> cases same v (0, 0) <;> cases decide (l.length = 0) <;> rfl
    · have e : form8 (u, 4, b, t, n, v, l) = (u, 4, b, t, 0, v, []) := rfl
      rw [e, same_req]
      show (same u u && (same (4 : Int) 4 && (same b b && (same t t && (same n 0 && (same v v && same l [])))))) = ((decide (b = 0) || true || (!true)) && (decide (n = 0) || false) && (same v (0, 0) || true) && (decide (t = 0) || true) && (false || decide (l.length = 0)))
      simp only [same_self, h0, hl]
      cases decide (b = 0) <;> cases decide (t = 0) <;> cases decide (n = 0) <;> cases same v (0, 0) <;> cases decide (l.length = 0) <;> rfl
    · have e : form8 (u, 5, b, t, n, v, l) = (u, 5, b, t, n, (0, 0), []) := rfl
      rw [e, same_req]
      show (same u u && (same (5 : Int) 5 && (same b b && (same t t && (same n n && (same v (0, 0) && same l [])))))) = ((decide (b = 0) || true || (!true)) && (decide (n = 0) || true) && (same v (0, 0) || false) && (decide (t = 0) || true) && (false || decide (l.length = 0)))
      simp only [same_self, h0, hl]
      cases decide (b = 0) <;> cases decide (t = 0) <;> cases decide (n = 0) <;> cases same v (0, 0) <;> cases decide (l.length = 0) <;> rfl
    · have e : form8 (u, 6, b, t, n, v, l) = (u, 6, b, t, 0, v, []) := rfl
      rw [e, same_req]
      show (same u u && (same (6 : Int) 6 && (same b b && (same t t && (same n 0 && (same v v && same l [])))))) = ((decide (b = 0) || true || (!true)) && (decide (n = 0) || false) && (same v (0, 0) || true) && (decide (t = 0) || true) && (false || decide (l.length = 0)))
      simp only [same_self, h0, hl]
      cases decide (b = 0) <;> cases decide (t = 0) <;> cases decide (n = 0) <;> cases same v (0, 0) <;> cases decide (l.length = 0) <;> rfl
    · have e : form8 (u, 7, b, t, n, v, l) = (u, 7, b, 0, 0, (0, 0), []) := rfl
      rw [e, same_req]
      show (same u u && (same (7 : Int) 7 && (same b b && (same t 0 && (same n 0 && (same v (0, 0) && same l [])))))) = ((decide (b = 0) || true || (!true)) && (decide (n = 0) || false) && (same v (0, 0) || false) && (decide (t = 0) || false) && (false || decide (l.length = 0)))
      simp only [same_self, h0, hl]
      cases decide (b = 0) <;> cases decide (t = 0) <;> cases decide (n = 0) <;> cases same v (0, 0) <;> cases decide (l.length = 0) <;> rfl
    · have e : form8 (u, 8, b, t, n, v, l) = (u, 8, b, 0, n, (0, 0), []) := rfl
      rw [e, same_req]
      show (same u u && (same (8 : Int) 8 && (same b b && (same t 0 && (same n n && (same v (0, 0) && same l [])))))) = ((decide (b = 0) || true || (!true)) && (decide (n = 0) || true) && (same v (0, 0) || false) && (decide (t = 0) || false) && (false || decide (l.length = 0)))
      simp only [same_self, h0, hl]
      cases decide (b = 0) <;> cases decide (t = 0) <;> cases decide (n = 0) <;> cases same v (0, 0) <;> cases decide (l.length = 0) <;> rfl
    · have e : form8 (u, 9, b, t, n, v, l) = (u, 9, b, 0, 0, (0, 0), []) := rfl
      rw [e, same_req]
      show (same u u && (same (9 : Int) 9 && (same b b && (same t 0 && (same n 0 && (same v (0, 0) && same l [])))))) = ((decide (b = 0) || true || (!true)) && (decide (n = 0) || false) && (same v (0, 0) || false) && (decide (t = 0) || false) && (false || decide (l.length = 0)))
      simp only [same_self, h0, hl]
      cases decide (b = 0) <;> cases decide (t = 0) <;> cases decide (n = 0) <;> cases same v (0, 0) <;> cases decide (l.length = 0) <;> rfl
    · have e : form8 (u, 10, b, t, n, v, l) = (u, 10, b, 0, 0, (0, 0), []) := rfl
      rw [e, same_req]
      show (same u u && (same (10 : Int) 10 && (same b b && (same t 0 && (same n 0 && (same v (0, 0) && same l [])))))) = ((decide (b = 0) || true || (!true)) && (decide (n = 0) || false) && (same v (0, 0) || false) && (decide (t = 0) || false) && (false || decide (l.length = 0)))
      simp only [same_self, h0, hl]
      cases decide (b = 0) <;> cases decide (t = 0) <;> cases decide (n = 0) <;> cases same v (0, 0) <;> cases decide (l.length = 0) <;> rfl
    · have e : form8 (u, 11, b, t, n, v, l) = (u, 11, b, 0, 0, (0, 0), []) := rfl
      rw [e, same_req]
      show (same u u && (same (11 : Int) 11 && (same b b && (same t 0 && (same n 0 && (same v (0, 0) && same l [])))))) = ((decide (b = 0) || true || (!true)) && (decide (n = 0) || false) && (same v (0, 0) || false) && (decide (t = 0) || false) && (false || decide (l.length = 0)))
      simp only [same_self, h0, hl]
      cases decide (b = 0) <;> cases decide (t = 0) <;> cases decide (n = 0) <;> cases same v (0, 0) <;> cases decide (l.length = 0) <;> rfl
    · have e : form8 (u, 12, b, t, n, v, l) = (u, 12, b, 0, 0, (0, 0), []) := rfl
      rw [e, same_req]
      show (same u u && (same (12 : Int) 12 && (same b b && (same t 0 && (same n 0 && (same v (0, 0) && same l [])))))) = ((decide (b = 0) || true || (!true)) && (decide (n = 0) || false) && (same v (0, 0) || false) && (decide (t = 0) || false) && (false || decide (l.length = 0)))
      simp only [same_self, h0, hl]
      cases decide (b = 0) <;> cases decide (t = 0) <;> cases decide (n = 0) <;> cases same v (0, 0) <;> cases decide (l.length = 0) <;> rfl
theorem hasT_eq (k : Int) : (decide (k = 4) || decide (k = 5) || decide (k = 6)) = hasT k := by
  unfold hasT
  rw [Bool.eq_iff_iff, inq_iff]
  simp only [Bool.or_eq_true, decide_eq_true_eq]
  omega
theorem req_key (us wd sm ib nn vv k4 k5 k6 e1 it : Bool) : ((bif (bif us then false else true) then (some (false, ())) else (bif (bif wd then false else true) then (some (false, ())) else (bif (bif sm then false else true) then (some (false, ())) else (bif (bif ib then false else true) then (some (false, ())) else (bif (bif nn then false else true) then (some (false, ())) else (bif (bif vv then false else true) then (some (false, ())) else (bif k4 then (bif e1 then (some ((true == it), ())) else (some (false, ()))) else (bif k5 then (bif e1 then (some ((true == it), ())) else (some (false, ()))) else (bif e1 then (some ((k6 == it), ())) else (some (false, ()))))))))))) : Option (Bool × Unit)) = some (us && (wd && (sm && (ib && (nn && (vv && (e1 && ((k4 || k5 || k6) == it))))))), ()) := by
  cases us <;> cases wd <;> cases sm <;> cases ib <;> cases nn <;> cases vv <;> first | rfl | (cases k4 <;> cases k5 <;> cases k6 <;> cases e1 <;> cases it <;> rfl)
theorem req_two (r : MReq) : (inq r.1 1 5 && (inq r.2.1 1 12 && (same r (form8 r) && (inq r.2.2.1 0 9 && (inq r.2.2.2.2.1 0 10000 && (decOk r.2.2.2.2.2.1 && ((decide (r.2.1 = 1) == testsOk r.2.2.2.2.2.2) && (hasT r.2.1 == inq r.2.2.2.1 1 4)))))))) = reqOk r := by
  rw [form_eq]
  unfold reqOk
  have hb : decide (r.2.2.1 = 0) = true → inq r.2.2.1 0 9 = true := fun h => inq_iff.2 (by have := of_decide_eq_true h; omega)
  have hn : decide (r.2.2.2.2.1 = 0) = true → inq r.2.2.2.2.1 0 10000 = true := fun h => inq_iff.2 (by have := of_decide_eq_true h; omega)
  have hv : same r.2.2.2.2.2.1 (0, 0) = true → decOk r.2.2.2.2.2.1 = true := fun h => by rw [same_iff.1 h]; rfl
  have ht : decide (r.2.2.2.1 = 0) = true → inq r.2.2.2.1 1 4 = false := fun h => Bool.eq_false_iff.2 fun h2 => by have := inq_iff.1 h2; have := of_decide_eq_true h; omega
  have hl : decide (r.2.2.2.2.2.2.length = 0) = true → testsOk r.2.2.2.2.2.2 = false := fun h => Bool.eq_false_iff.2 fun h2 => by have := testsOk_len h2; have := of_decide_eq_true h; omega
  have g1 : ∀ b h i : Bool, (b = true → i = true) → (b || (h && i)) = ((b || h) && i) := by intro b h i hi; cases b <;> cases h <;> cases i <;> first | rfl | (have := hi rfl; cases this)
  have g2 : ∀ t h i : Bool, (t = true → i = false) → (bif h then i else t) = ((t || h) && (h == i)) := by intro t h i hi; cases t <;> cases h <;> cases i <;> first | rfl | (have := hi rfl; cases this)
  have g3 : ∀ k t l : Bool, (l = true → t = false) → (bif k then t else l) = ((k || l) && (k == t)) := by intro t h i hi; cases t <;> cases h <;> cases i <;> first | rfl | (have := hi rfl; cases this)
  rw [g1 _ _ _ hb, g1 _ _ _ hn, g1 _ _ _ hv, g2 _ _ _ ht, g3 _ _ _ hl]
  cases inq r.2.1 1 12
  · simp
  · simp only [Bool.not_true, Bool.or_false]
    generalize (decide (r.2.2.1 = 0) || hasB r.2.1) = a1
    generalize (decide (r.2.2.2.2.1 = 0) || hasN r.2.1) = a2
    generalize (same r.2.2.2.2.2.1 (0, 0) || hasV r.2.1) = a3
    generalize (decide (r.2.2.2.1 = 0) || hasT r.2.1) = a4
    generalize (decide (r.2.1 = 1) || decide (r.2.2.2.2.2.2.length = 0)) = a5
    generalize (decide (r.2.1 = 1) == testsOk r.2.2.2.2.2.2) = a6
    generalize (hasT r.2.1 == inq r.2.2.2.1 1 4) = a7
    ac_rfl
end Go.Proofs.Ytijolcgmciclhaa

set_option linter.unusedVariables false
set_option linter.unusedSimpArgs false
namespace Go.Proofs.Ytijolcgmciclhaa
open Go.Vm
def signB (b : MBat) (u r : Int) : Bool := inq u 1 5 && (signs r && !decide (b.2.2.2.2.1.length = 6))
def withSig (b : MBat) (s : MSig) : MBat := (b.1, b.2.1, b.2.2.1, b.2.2.2.1, b.2.2.2.2.1 ++ [s], b.2.2.2.2.2)
theorem six_eq (b : MBat) : decide ((List.length b.2.2.2.2.1 : Int) = (6 : Int)) = decide (b.2.2.2.2.1.length = 6) := by
  by_cases h : b.2.2.2.2.1.length = 6
  · rw [decide_eq_true h, decide_eq_true (by omega)]
  · rw [decide_eq_false h, decide_eq_false (by omega)]
theorem batSign_eq (b : MBat) (u r : Int) : batSign b u r = bif isOpen b && signB b u r then (withSig b (u, r, batMark b), true) else (b, false) := rfl
theorem p_open {β : Type} (ok st : Bool) (A B : β) : (bif (bif ok then false else true) then B else (bif (bif st then false else true) then B else A)) = bif ok && st then A else B := by cases ok <;> cases st <;> rfl
theorem open_six {b : MBat} (h : isOpen b = true) : b.2.2.2.2.1.length ≤ 6 := (batOk_iff.1 (isOpen_iff.1 h).1).1.2.2.2.2.2.1
theorem open_three {b : MBat} (h : isOpen b = true) : b.2.2.2.2.2.length ≤ 3 := (batOk_iff.1 (isOpen_iff.1 h).1).1.2.2.2.2.2.2.2
def devB (b : MBat) (k : Int) (o : Bool) : Bool := bif o then decide (k = b.2.2.2.2.2.length) && decide (k < 3) else inq k 0 ((b.2.2.2.2.2.length : Int) - 1) && b.2.2.2.2.2.getD k.toNat false
def withDev (b : MBat) (k : Int) (o : Bool) : MBat := (b.1, b.2.1, b.2.2.1, b.2.2.2.1, b.2.2.2.2.1, bif o then b.2.2.2.2.2 ++ [true] else b.2.2.2.2.2.set k.toNat false)
theorem batDev_eq (b : MBat) (k : Int) (o : Bool) : batDev b k o = bif isOpen b && devB b k o then (withDev b k o, true) else (b, false) := rfl
theorem dev_in {b : MBat} {k : Int} (h : inq k 0 ((b.2.2.2.2.2.length : Int) - 1) = true) : (bif (decide ((0 : Int) ≤ k)) then (decide (k < (List.length b.2.2.2.2.2 : Int))) else false) = true := by
  have := inq_iff.1 h
  rw [decide_eq_true this.1]
  exact decide_eq_true (by omega)
theorem dev_close {b : MBat} {k : Int} {A B : Option (Bool × MBat × Unit)} (hl : b.2.2.2.2.2.length ≤ 3) : (bif inq k 0 (w64 ((List.length b.2.2.2.2.2 : Int) - (1 : Int))) then (bif (bif (decide ((0 : Int) ≤ k)) then (decide (k < (List.length b.2.2.2.2.2 : Int))) else false) then (bif (rdL (e := Sh.bool) b.2.2.2.2.2 k) then (bif (bif (decide ((0 : Int) ≤ k)) then (decide (k < (List.length b.2.2.2.2.2 : Int))) else false) then A else none) else B) else none) else B) = bif inq k 0 ((b.2.2.2.2.2.length : Int) - 1) && b.2.2.2.2.2.getD k.toNat false then A else B := by
  rw [w64_eq (x := (List.length b.2.2.2.2.2 : Int) - 1) (by omega) (by omega)]
  cases h : inq k 0 ((b.2.2.2.2.2.length : Int) - 1)
  · rfl
  · rw [dev_in h]
    show (bif b.2.2.2.2.2.getD k.toNat false then A else B) = _
    rfl
def withTst (b : MBat) (i : Int) (t : MTst) : MBat := (b.1, b.2.1, b.2.2.1.set i.toNat t, b.2.2.2.1, b.2.2.2.2.1, b.2.2.2.2.2)
noncomputable def turnAt (b : MBat) (n w : Int) (v : MDec) (c : Int) : MBat × Bool := bif decide (findT b.2.2.1 n < 0) then (b, false) else (withTst b (findT b.2.2.1 n) (tstTurn (b.2.2.1.getD (findT b.2.2.1 n).toNat t0) w v c).1, (tstTurn (b.2.2.1.getD (findT b.2.2.1 n).toNat t0) w v c).2)
theorem batTest_eq (b : MBat) (n w : Int) (v : MDec) (c : Int) : batTest b n w v c = bif isOpen b then turnAt b n w v c else (b, false) := by
  unfold batTest turnAt
  cases isOpen b
  · rfl
  · cases decide (findT b.2.2.1 n < 0) <;> rfl
theorem set_self2 (b : MBat) {i : Int} (h : i.toNat < b.2.2.1.length) : withTst b i (b.2.2.1.getD i.toNat t0) = b := by
  unfold withTst
  have : b.2.2.1.set i.toNat (b.2.2.1.getD i.toNat t0) = b.2.2.1 := by
    refine set_self ?_
    rw [List.getD_eq_getElem?_getD, List.getElem?_eq_getElem h]; rfl
  rw [this]
theorem getD_mem {b : MBat} {i : Int} (h1 : 0 ≤ i) (h2 : i < b.2.2.1.length) : b.2.2.1.getD i.toNat t0 ∈ b.2.2.1 := by
  have h : i.toNat < b.2.2.1.length := by omega
  rw [List.getD_eq_getElem?_getD, List.getElem?_eq_getElem h]
  exact List.getElem_mem h
end Go.Proofs.Ytijolcgmciclhaa

set_option linter.unusedVariables false
set_option linter.unusedSimpArgs false
namespace Go.Proofs.Ytijolcgmciclhaa
open Go.Vm
theorem sig_read {ro : List Int} {s : MSig} (hr : ro.length ≤ 4294967296) (hs : sigOk s = true) (hl : ¬ (List.length ro : Int) < s.1) : w64 (s.1 - 1) = s.1 - 1 ∧ (bif (decide ((0 : Int) ≤ s.1 - 1)) then (decide (s.1 - 1 < (List.length ro : Int))) else false) = true ∧ rdL (e := I) ro (s.1 - 1) = ro.getD (s.1 - 1).toNat 0 := by
  have h := (sigOk_iff.1 hs).1
  refine ⟨w64_eq (by omega) (by omega), ?_, rfl⟩
  rw [decide_eq_true (show (0 : Int) ≤ s.1 - 1 by omega)]
  exact decide_eq_true (by omega)
theorem man_may (o k : Int) : List.any (manOf k).2.1 (fun d : Int => decide (o = d)) = reqMay o k ∧ List.length (manOf k).2.1 ≤ 2 := by
  cases h : inq k 1 12
  · have h' : ¬ (1 ≤ k ∧ k ≤ 12) := fun h2 => by rw [inq_iff.2 h2] at h; cases h
    have e : manOf k = (by0, [], by0) := by unfold manOf; rw [h]; rfl
    have e2 : reqMay o k = false := by
      unfold reqMay
      rw [if_neg (show ¬ k = 1 by omega), if_neg (show ¬ k = 2 by omega), if_neg (show ¬ k = 3 by omega), if_neg (show ¬ k = 4 by omega), if_neg (show ¬ k = 5 by omega), if_neg (show ¬ k = 6 by omega), if_neg (show ¬ k = 7 by omega), if_neg (show ¬ k = 8 by omega), if_neg (show ¬ k = 9 by omega), if_neg (show ¬ k = 10 by omega), if_neg (show ¬ k = 11 by omega), if_neg (show ¬ k = 12 by omega)]
    rw [e, e2]
    exact ⟨rfl, Nat.zero_le _⟩
  · have one : ∀ a : Int, List.any [a] (fun d : Int => decide (o = d)) = decide (o = a) := fun a => by
      show (decide (o = a) || false) = _
      rw [Bool.or_false]
    have two : ∀ a b : Int, List.any [a, b] (fun d : Int => decide (o = d)) = (decide (o = a) || decide (o = b)) := fun a b => by
      show (decide (o = a) || (decide (o = b) || false)) = _
      rw [Bool.or_false]
    rcases kinds h with rfl | rfl | rfl | rfl | rfl | rfl | rfl | rfl | rfl | rfl | rfl | rfl
    · exact ⟨one 4, Nat.le_of_ble_eq_true rfl⟩
    · exact ⟨one 4, Nat.le_of_ble_eq_true rfl⟩
    · exact ⟨two 1 2, Nat.le_of_ble_eq_true rfl⟩
    · exact ⟨two 1 2, Nat.le_of_ble_eq_true rfl⟩
    · exact ⟨two 2 3, Nat.le_of_ble_eq_true rfl⟩
    · exact ⟨two 1 2, Nat.le_of_ble_eq_true rfl⟩
    · exact ⟨two 1 2, Nat.le_of_ble_eq_true rfl⟩
    · exact ⟨two 2 3, Nat.le_of_ble_eq_true rfl⟩
    · exact ⟨two 2 3, Nat.le_of_ble_eq_true rfl⟩
    · exact ⟨one 3, Nat.le_of_ble_eq_true rfl⟩
    · exact ⟨one 3, Nat.le_of_ble_eq_true rfl⟩
    · exact ⟨one 3, Nat.le_of_ble_eq_true rfl⟩
def hou4 (h : MHou) : Bool := houSm h && decide (h.2.2.length ≤ 4)
theorem hou4_iff {h : MHou} : hou4 h = true ↔ houSm h = true ∧ h.2.2.length ≤ 4 := by unfold hou4; rw [Bool.and_eq_true, decide_eq_true_eq]
theorem four_eq (h : MHou) : decide ((List.length h.2.2 : Int) = (4 : Int)) = decide (h.2.2.length = 4) := by
  by_cases h' : h.2.2.length = 4
  · rw [decide_eq_true h', decide_eq_true (show (List.length h.2.2 : Int) = (4 : Int) by omega)]
  · rw [decide_eq_false h', decide_eq_false (show ¬ (List.length h.2.2 : Int) = (4 : Int) by omega)]
theorem p_take {β : Type} (h : MHou) (n : Int) (hh : hou4 h = true) (mk : MHou × Int → β) :
    (bif (decide (spcNow h.2.1 < (0 : Int))) then (some (mk (h, 4))) else (bif (decide ((List.length h.2.2 : Int) = (4 : Int))) then (some (mk (h, 6))) else (bif (decide (n = (0 : Int))) then (some (mk (h, 5))) else (bif (bif (decide ((0 : Int) ≤ spcNow h.2.1)) then (decide (spcNow h.2.1 < (List.length h.2.1 : Int))) else false) then (bif smA (rdL (e := S_SpcSpec) h.2.1 (spcNow h.2.1)).1 then (bif (fitL h.2.2 [batNew (spcNow h.2.1) (rdL (e := S_SpcSpec) h.2.1 (spcNow h.2.1)).1 n]) then (some (mk ((h.1, h.2.1, (List.append h.2.2 [batNew (spcNow h.2.1) (rdL (e := S_SpcSpec) h.2.1 (spcNow h.2.1)).1 n])), 1))) else none) else none) else none)))) = some (mk (houTakeN h n)) := by
  obtain ⟨h0, h4⟩ := hou4_iff.1 hh
  obtain ⟨_, h2, _, _⟩ := houSm_iff.1 h0
  unfold houTakeN
  rw [four_eq]
  refine bif_if (fun h => by rw [if_pos h]) fun g1 => ?_
  rw [if_neg g1]
  refine bif_if (fun h => by rw [if_pos h]) fun g2 => ?_
  rw [if_neg g2]
  refine bif_if (fun h => by rw [if_pos h]) fun g3 => ?_
  rw [if_neg g3]
  have hr := (spcNow_range h.2.1).resolve_left (by omega)
  have e : rdL (e := S_SpcSpec) h.2.1 (spcNow h.2.1) = h.2.1.getD (spcNow h.2.1).toNat spc0 := rfl
  have hs : smA (h.2.1.getD (spcNow h.2.1).toNat spc0).1 = true := decide_eq_true ((smS_iff.1 h2).2 _ (getS_mem hr.1 hr.2))
  rw [e, decide_eq_true hr.1, decide_eq_true hr.2, hs, fitL_eq (by show h.2.2.length + 1 ≤ _; omega)]; rfl
theorem may_read {h : MHou} {r : MReq} (hu : 1 ≤ r.1) (hr : h.1.length ≤ 4294967296) (hl : ¬ (List.length h.1 : Int) < r.1) : w64 (r.1 - 1) = r.1 - 1 ∧ (bif (decide ((0 : Int) ≤ r.1 - 1)) then (decide (r.1 - 1 < (List.length h.1 : Int))) else false) = true ∧ rdL (e := I) h.1 (r.1 - 1) = roleOf h r := by
  refine ⟨w64_eq (by omega) (by omega), ?_, rfl⟩
  rw [decide_eq_true (show (0 : Int) ≤ r.1 - 1 by omega)]
  exact decide_eq_true (by omega)
def goPre (h : MHou) (r : MReq) : Bool := hou4 h && (smA r.2.2.2.2.2.2 && (decide (1 ≤ r.1) && decide (0 ≤ r.2.2.1)))
theorem goPre_iff {h : MHou} {r : MReq} : goPre h r = true ↔ hou4 h = true ∧ smA r.2.2.2.2.2.2 = true ∧ 1 ≤ r.1 ∧ 0 ≤ r.2.2.1 := by
  unfold goPre; simp only [Bool.and_eq_true, decide_eq_true_eq]
theorem ok_pre {h : MHou} {r : MReq} (hh : houOk h = true) (hr : reqOk r = true) : goPre h r = true ∧ inq r.2.1 1 12 = true := by
  have h1 := reqOk_iff.1 hr
  have hu := inq_iff.1 h1.2.1
  have ht := reqOk_tests hr
  refine ⟨goPre_iff.2 ⟨hou4_iff.2 ⟨houOk_sm hh, (houOk_iff.1 hh).2.2.1⟩, decide_eq_true (by omega), hu.1, reqOk_batch hr⟩, h1.1⟩
def sigsIn (ro : List Int) (b : MBat) : Bool := b.2.2.2.2.1.all (sigIn ro)
noncomputable def asksIn (s : MSpc) (b : MBat) : Bool := same (b.2.2.1.map (·.1)) s.1 && !decide (s.2 = 1)
theorem same_map (l : List MTst) (m : List MAsk) (hl : m.length = l.length) (F : Nat → Nat → Option (Bool × Unit)) (hend : ∀ k, F (k + 1) m.length = some (true, ()))
    (hstep : ∀ k i a t r r', m.drop i = a :: r → l.drop i = t :: r' → i < m.length → i < l.length → F (k + 1) i = bif same a t.1 then F k (i + 1) else some (false, ())) : F (m.length + 1) 0 = some (same (l.map (·.1)) m, ()) := by
  have e : same (l.map (·.1)) m = same m (l.map (·.1)) := by rw [Bool.eq_iff_iff, same_iff, same_iff]; exact eq_comm
  rw [e]
  refine eq_loop m (l.map (·.1)) (by rw [List.length_map]; exact hl) F hend fun k i x y r r' hd hd' hi hi' => ?_
  rw [List.length_map] at hi'
  have hdl := List.drop_eq_getElem_cons hi'
  rw [← List.map_drop, hdl, List.map_cons] at hd'
  rw [hstep k i x _ r _ hd hdl hi hi', (List.cons.inj hd').1]
theorem p_about (k b : Int) : (bif inq k 1 3 then (some ((0 : Int), ())) else (bif (bif inq b 0 3 then false else true) then (some ((0 : Int), ())) else (some ((w64 (b + (1 : Int))), ())))) = some (bif inq k 1 3 || !inq b 0 3 then 0 else b + 1, ()) := by
  cases inq k 1 3
  · cases h : inq b 0 3
    · rfl
    · have := inq_iff.1 h
      rw [w64_eq (x := b + 1) (by omega) (by omega)]; rfl
  · rfl
end Go.Proofs.Ytijolcgmciclhaa

set_option linter.unusedVariables false
set_option linter.unusedSimpArgs false
namespace Go.Proofs.Ytijolcgmciclhaa
open Go.Vm
theorem rdL_set' {S : Sh} {l : List S.den} {i : Nat} {x : S.den} (h : i < l.length) : rdL (e := S) (l.set i x) (i : Int) = x := by
  unfold rdL
  rw [Int.toNat_natCast, List.getD_eq_getElem?_getD, List.getElem?_set_self h]; rfl
theorem same_bool (a b : Bool) : same a b = (a == b) := by
  rw [Bool.eq_iff_iff, same_iff]; exact beq_iff_eq.symm
theorem rdL_set2 {S : Sh} {l : List S.den} {i : Nat} {x y : S.den} (h : i < l.length) : rdL (e := S) ((l.set i x).set i y) (i : Int) = y := rdL_set' (by rw [List.length_set]; exact h)
def wfTsts (l : List MTst) : Bool := okLen l.length && l.all (fun t => okLen t.2.2.2.2.length)
def wfBat (b : MBat) : Bool := wfTsts b.2.2.1 && (okLen b.2.2.2.2.1.length && okLen b.2.2.2.2.2.length)
def wfBats (l : List MBat) : Bool := okLen l.length && l.all wfBat
def wfHou (h : MHou) : Bool := okLen h.1.length && (wfSpcs h.2.1 && wfBats h.2.2)
def smTs (l : List MTst) : Bool := decide (l.length ≤ 4294967296) && l.all (fun t => decide (t.2.2.2.2.length ≤ 4294967296))
theorem smTs_iff {l : List MTst} : smTs l = true ↔ l.length ≤ 4294967296 ∧ ∀ t ∈ l, t.2.2.2.2.length ≤ 4294967296 := by
  unfold smTs; simp only [Bool.and_eq_true, decide_eq_true_eq, List.all_eq_true]
theorem smB_parts {b : MBat} (h : smB b = true) : smTs b.2.2.1 = true ∧ decide (List.length b.2.2.2.2.1 ≤ 4294967296) = true ∧ decide (List.length b.2.2.2.2.2 ≤ 4294967296) = true := by
  obtain ⟨h1, h2, h3, h4⟩ := smB_iff.1 h
  exact ⟨smTs_iff.2 ⟨h1, h2⟩, decide_eq_true h3, decide_eq_true h4⟩
def smBs (l : List MBat) : Bool := decide (l.length ≤ 4294967296) && l.all smB
theorem smBs_iff {l : List MBat} : smBs l = true ↔ l.length ≤ 4294967296 ∧ ∀ b ∈ l, smB b = true := by
  unfold smBs; simp only [Bool.and_eq_true, decide_eq_true_eq, List.all_eq_true]
theorem houSm_parts {h : MHou} (hh : houSm h = true) : decide (List.length h.1 ≤ 4294967296) = true ∧ smS h.2.1 = true ∧ smBs h.2.2 = true := by
  obtain ⟨h1, h2, h3, h4⟩ := houSm_iff.1 hh
  exact ⟨decide_eq_true h1, h2, smBs_iff.2 ⟨h3, h4⟩⟩
theorem s_leqBatSig : C_leqBatSig (fun _ => true) (fun x => (same x.1 x.2.1, ())) := S_leqBatSig fun x _ => ⟨0, (ev_leqBatSig 0 x.1 x.2.1).trans (by
  have key : ∀ a b : MSig, (bif (bif (decide (a.1 = b.1)) then false else true) then (some (false, ())) else (bif (bif (decide (a.2.1 = b.2.1)) then false else true) then (some (false, ())) else (bif (bif (decide (a.2.2 = b.2.2)) then false else true) then (some (false, ())) else (some (true, ()))))) = some (same a b, ()) := fun a b => by
    obtain ⟨a1, a2, a3⟩ := a
    obtain ⟨b1, b2, b3⟩ := b
    rw [same_pr (a1, a2, a3) b1 (b2, b3), same_pr (a2, a3) b2 b3]
    dsimp only
    rw [same_int, same_int, same_int]
    cases same a1 b1 <;> cases same a2 b2 <;> cases same a3 b3 <;> rfl
  exact key x.1 x.2.1)⟩
theorem s_leqBoolS : C_leqBoolS (fun x => decide (List.length x.1 ≤ 4294967296)) (fun x => (same x.1 x.2.1, ())) := S_leqBoolS fun x hx => ⟨List.length x.1 + 1, (ev_leqBoolS _ x.1 x.2.1).trans (p_eqS fun hl => by
  have hx : List.length x.1 ≤ 4294967296 := of_decide_eq_true hx
  refine eq_loop (α := Bool) x.1 x.2.1 hl (fun k i => r_leqBoolS  (x.1, x.2.1, ()) k [false, true, false, true, true] (h0_leqBoolS x.1 x.2.1 (i : Int))) (fun k => ?_) (fun k i y z r r' hd hd' hi hi' => ?_)
  · rw [rd0_leqBoolS, lt_false (Nat.le_refl _)]; rfl
  · rw [rd0_leqBoolS, in_true hi, in_true hi', lt_true hi, w_succ (by omega), rdL_drop hd, rdL_drop hd']
    rw [same_bool]; cases y <;> cases z <;> rfl)⟩
theorem s_leqBatSigS : C_leqBatSigS (fun x => decide (List.length x.1 ≤ 4294967296)) (fun x => (same x.1 x.2.1, ())) := S_leqBatSigS s_leqBatSig fun x hx => ⟨List.length x.1 + 1, (ev_leqBatSigS _ x.1 x.2.1).trans (p_eqS fun hl => by
  have hx : List.length x.1 ≤ 4294967296 := of_decide_eq_true hx
  refine eq_loop (α := MSig) x.1 x.2.1 hl (fun k i => r_leqBatSigS (fun x => (same x.1 x.2.1, ())) (x.1, x.2.1, ()) k [false, true, false, true, true] (h0_leqBatSigS x.1 x.2.1 (i : Int))) (fun k => ?_) (fun k i y z r r' hd hd' hi hi' => ?_)
  · rw [rd0_leqBatSigS, lt_false (Nat.le_refl _)]; rfl
  · rw [rd0_leqBatSigS, in_true hi, in_true hi', lt_true hi, w_succ (by omega), rdL_drop hd, rdL_drop hd']
    show (bif (bif same y z then false else true) then _ else _) = _
    cases same y z <;> rfl)⟩
theorem s_leqTstTestS : C_leqTstTestS (fun x => smTs x.1) (fun x => (same x.1 x.2.1, ())) := S_leqTstTestS s_leqTstTest fun x hx => ⟨List.length x.1 + 1, (ev_leqTstTestS _ x.1 x.2.1).trans (p_eqS fun hl => by
  obtain ⟨h1, h2⟩ := smTs_iff.1 hx
  have h1 : List.length x.1 ≤ 4294967296 := h1
  refine eq_loop (α := MTst) x.1 x.2.1 hl (fun k i => r_leqTstTestS (fun x => (same x.1 x.2.1, ())) (fun x => decide (List.length x.1.2.2.2.2 ≤ 4294967296)) (x.1, x.2.1, ()) k [false, true, false, true, true] (h0_leqTstTestS x.1 x.2.1 (i : Int))) (fun k => ?_) (fun k i y z r r' hd hd' hi hi' => ?_)
  · rw [rd0_leqTstTestS, lt_false (Nat.le_refl _)]; rfl
  · have h3 : decide (List.length y.2.2.2.2 ≤ 4294967296) = true := decide_eq_true (h2 y (mem_drop hd))
    rw [rd0_leqTstTestS, in_true hi, in_true hi', lt_true hi, w_succ (by omega), rdL_drop hd, rdL_drop hd', cl_eq h3]
    show (bif (bif same y z then false else true) then _ else _) = _
    cases same y z <;> rfl)⟩
theorem same_batch (a b : MBat) : (same a.1 b.1 && (same a.2.1 b.2.1 && (same a.2.2.1 b.2.2.1 && (same a.2.2.2.1 b.2.2.2.1 && (same a.2.2.2.2.1 b.2.2.2.2.1 && (same a.2.2.2.2.2 b.2.2.2.2.2 && true)))))) = same a b := by
  rw [Bool.and_true, same_pair, same_pair, same_pair, same_pair, same_pair]
theorem s_leqBatBatch : C_leqBatBatch (fun x => smB x.1) (fun x => (same x.1 x.2.1, ())) := S_leqBatBatch s_leqTstTestS s_leqBatSigS s_leqBoolS fun x hx => ⟨0, (ev_leqBatBatch 0 x.1 x.2.1).trans (by
  obtain ⟨a, b, u⟩ := x
  change MBat at a
  change MBat at b
  obtain ⟨h1, h2, h3⟩ := smB_parts hx
  dsimp only at h1 h2 h3 ⊢
  rw [cl_eq h1, cl_eq h2, cl_eq h3, ← same_batch a b, same_int, same_int, same_int]
  exact eq_step (eq_step (eq_step (eq_step (eq_step (eq_step rfl))))))⟩
theorem s_lmarkBoolS : C_lmarkBoolS (fun x => mkPre (szL (fun _ => 1)) x.1 x.2.1) (fun x => ((markL mkBool x.1 x.2.1).2, ((markL mkBool x.1 x.2.1).1, ()))) := S_lmarkBoolS fun x hx => ⟨List.length x.1 + 1, (ev_lmarkBoolS _ x.1 x.2.1).trans (by
  obtain ⟨h1, h2⟩ := mkPre_iff.1 hx
  have hl : List.length x.1 ≤ szL (fun _ => 1) x.1 := szL_len (fun _ => by decide) x.1
  refine mark_loop (α := Bool) (mk := mkBool) (sz := fun _ => 1) mkBool_ok.go x.1 4294967296 (fun c out => some (c, (out, ()))) (fun k i c out => r_lmarkBoolS (x.1, x.2.1, ()) k [false, true, false, true] (h0_lmarkBoolS x.1 x.2.1 c (i : Int) out)) (fun k c out ho => ?_) (fun k i y r c out hd hi ho h0 hB => ?_) x.2.1 h1 h2
  · rw [rd0_lmarkBoolS]
    try simp only [lt_eq]
    rw [lt_false (show out.length ≤ List.length x.1 by omega)]; rfl
  · have hi' : i < out.length := by omega
    have hB : c + 1 ≤ 4294967296 := hB
    rw [rd0_lmarkBoolS]
    have hr : ∀ y : Bool, rdL (e := Sh.bool) (out.set i y) (i : Int) = y := fun y => rdL_set' hi'
    have h0i : decide ((0 : Int) ≤ (i : Int)) = true := decide_eq_true (by omega)
    have h3 : (bif (decide ((3 : Int) = (0 : Int))) then false else true) = true := rfl
    simp only [lt_eq, h3, Int.toNat_natCast, List.length_set, hr, List.set_set, h0i, lt_true hi', cond_true, w_succ (show i ≤ 4294967296 by omega)]
    rw [w64_eq (x := c + 1) (by omega) (by omega)]
    rfl)⟩
theorem s_lheldBoolS : C_lheldBoolS (fun x => mkPre (szL (fun _ => 1)) x.1 x.2.1) (fun x => (hdOf (markL mkBool) x.1 x.2.1, ())) := S_lheldBoolS fun x hx => ⟨List.length x.1 + 1, (ev_lheldBoolS _ x.1 x.2.1).trans (by
  obtain ⟨h1, h2⟩ := mkPre_iff.1 hx
  have hl : List.length x.1 ≤ szL (fun _ => 1) x.1 := szL_len (fun _ => by decide) x.1
  refine held_loop (α := Bool) (mk := mkBool) (sz := fun _ => 1) mkBool_ok x.1 4294967296 (fun k i c => r_lheldBoolS (x.1, x.2.1, ()) k [false, true, false, true] (h0_lheldBoolS x.1 x.2.1 c (i : Int))) (fun k c => ?_) (fun k i y r c hd hi h0 hB => ?_) x.2.1 h1 h2
  · rw [rd0_lheldBoolS]
    try simp only [lt_eq]
    rw [lt_false (Nat.le_refl _)]; rfl
  · have hB : c + 1 ≤ 4294967296 := hB
    rw [rd0_lheldBoolS]
    have h0i : decide ((0 : Int) ≤ (i : Int)) = true := decide_eq_true (by omega)
    have h3 : (bif (decide ((3 : Int) = (0 : Int))) then false else true) = true := rfl
    simp only [lt_eq, h3, h0i, lt_true hi, cond_true, w_succ (show i ≤ 4294967296 by omega), rdL_drop hd]
    rw [w64_eq (x := c + 1) (by omega) (by omega)]
    unfold mkBool
    simp only [same_pr, same_int]
    try rw [same_bool]
    generalize (y == _) = q
    cases q <;> rfl)⟩
theorem s_lmarkBatSigS : C_lmarkBatSigS (fun x => mkPre (szL (fun _ => 3)) x.1 x.2.1) (fun x => ((markL mkSig x.1 x.2.1).2, ((markL mkSig x.1 x.2.1).1, ()))) := S_lmarkBatSigS fun x hx => ⟨List.length x.1 + 1, (ev_lmarkBatSigS _ x.1 x.2.1).trans (by
  obtain ⟨h1, h2⟩ := mkPre_iff.1 hx
  have hl : List.length x.1 ≤ szL (fun _ => 3) x.1 := szL_len (fun _ => by decide) x.1
  refine mark_loop (α := MSig) (mk := mkSig) (sz := fun _ => 3) mkSig_ok.go x.1 4294967296 (fun c out => some (c, (out, ()))) (fun k i c out => r_lmarkBatSigS (x.1, x.2.1, ()) k [false, true, false, true] (h0_lmarkBatSigS x.1 x.2.1 c (i : Int) out)) (fun k c out ho => ?_) (fun k i y r c out hd hi ho h0 hB => ?_) x.2.1 h1 h2
  · rw [rd0_lmarkBatSigS]
    try simp only [lt_eq]
    rw [lt_false (show out.length ≤ List.length x.1 by omega)]; rfl
  · have hi' : i < out.length := by omega
    have hB : c + 3 ≤ 4294967296 := hB
    rw [rd0_lmarkBatSigS]
    have hr : ∀ y : MSig, rdL (e := S_DayDay) (out.set i y) (i : Int) = y := fun y => rdL_set' hi'
    have h0i : decide ((0 : Int) ≤ (i : Int)) = true := decide_eq_true (by omega)
    have h3 : (bif (decide ((3 : Int) = (0 : Int))) then false else true) = true := rfl
    simp only [lt_eq, h3, Int.toNat_natCast, List.length_set, hr, List.set_set, h0i, lt_true hi', cond_true, w_succ (show i ≤ 4294967296 by omega)]
    rw [w64_eq (x := c + 1) (by omega) (by omega), w64_eq (x := c + 1 + 1) (by omega) (by omega), w64_eq (x := c + 1 + 1 + 1) (by omega) (by omega)]
    rfl)⟩
theorem s_lheldBatSigS : C_lheldBatSigS (fun x => mkPre (szL (fun _ => 3)) x.1 x.2.1) (fun x => (hdOf (markL mkSig) x.1 x.2.1, ())) := S_lheldBatSigS fun x hx => ⟨List.length x.1 + 1, (ev_lheldBatSigS _ x.1 x.2.1).trans (by
  obtain ⟨h1, h2⟩ := mkPre_iff.1 hx
  have hl : List.length x.1 ≤ szL (fun _ => 3) x.1 := szL_len (fun _ => by decide) x.1
  refine held_loop (α := MSig) (mk := mkSig) (sz := fun _ => 3) mkSig_ok x.1 4294967296 (fun k i c => r_lheldBatSigS (x.1, x.2.1, ()) k [false, true, false, true] (h0_lheldBatSigS x.1 x.2.1 c (i : Int))) (fun k c => ?_) (fun k i y r c hd hi h0 hB => ?_) x.2.1 h1 h2
  · rw [rd0_lheldBatSigS]
    try simp only [lt_eq]
    rw [lt_false (Nat.le_refl _)]; rfl
  · have hB : c + 3 ≤ 4294967296 := hB
    rw [rd0_lheldBatSigS]
    have h0i : decide ((0 : Int) ≤ (i : Int)) = true := decide_eq_true (by omega)
    have h3 : (bif (decide ((3 : Int) = (0 : Int))) then false else true) = true := rfl
    simp only [lt_eq, h3, h0i, lt_true hi, cond_true, w_succ (show i ≤ 4294967296 by omega), rdL_drop hd]
    rw [w64_eq (x := c + 1) (by omega) (by omega), w64_eq (x := c + 1 + 1) (by omega) (by omega), w64_eq (x := c + 1 + 1 + 1) (by omega) (by omega)]
    unfold mkSig
    simp only [same_pr, same_int]
    cases same y.1 c <;> cases same y.2.1 (c + 1) <;> cases same y.2.2 (c + 1 + 1) <;> rfl)⟩
theorem lt_intro {α β : Type} {v : α} {k : α → β} {r : β} (h : ∀ t, t = v → k t = r) : lt v k = r := h v rfl
theorem s_lmarkTstTestS : C_lmarkTstTestS (fun x => mkPre (szL szT) x.1 x.2.1) (fun x => ((markL mkTst x.1 x.2.1).2, ((markL mkTst x.1 x.2.1).1, ()))) := S_lmarkTstTestS s_lmarkDecDecS fun x hx => ⟨List.length x.1 + 1, (ev_lmarkTstTestS _ x.1 x.2.1).trans (by
  obtain ⟨h1, h2⟩ := mkPre_iff.1 hx
  have hl : List.length x.1 ≤ szL szT x.1 := szL_len szT_pos x.1
  refine mark_loop (α := MTst) (mk := mkTst) (sz := szT) mkTst_ok.go x.1 4294967296 (fun c out => some (c, (out, ()))) (fun k i c out => r_lmarkTstTestS (fun x => ((markL mkDec x.1 x.2.1).2, ((markL mkDec x.1 x.2.1).1, ()))) (fun x => mkPre (szL (fun _ => 2)) x.1 x.2.1) (x.1, x.2.1, ()) k [false, true, false, true] (h0_lmarkTstTestS x.1 x.2.1 c (i : Int) out)) (fun k c out ho => ?_) (fun k i y r c out hd hi ho h0 hB => ?_) x.2.1 h1 h2
  · rw [rd0_lmarkTstTestS]
    repeat with_reducible refine lt_intro fun t e => ?_
    rw [lt_false (show out.length ≤ List.length x.1 by omega)]; rfl
  · have hi' : i < out.length := by omega
    have hB : c + ((10 + szL (fun _ => 2) y.2.2.2.2 : Nat) : Int) ≤ 4294967296 := hB
    rw [rd0_lmarkTstTestS]
    have hr : ∀ y : MTst, rdL (e := S_TstTest) (out.set i y) (i : Int) = y := fun y => rdL_set' hi'
    have h0i : decide ((0 : Int) ≤ (i : Int)) = true := decide_eq_true (by omega)
    have hp : mkPre (szL (fun _ => 2)) y.2.2.2.2 (c + 1 + 1 + 1 + 1 + 1 + 1 + 1 + 1 + 1 + 1) = true := mkPre_iff.2 ⟨by omega, by omega⟩
    have hy := rdL_drop (S := S_TstTest) hd
    have e1 : w64 (c + 1) = c + 1 := w64_eq (by omega) (by omega)
    have e2 : w64 (c + 1 + 1) = c + 1 + 1 := w64_eq (by omega) (by omega)
    have e3 : w64 (c + 1 + 1 + 1) = c + 1 + 1 + 1 := w64_eq (by omega) (by omega)
    have e4 : w64 (c + 1 + 1 + 1 + 1) = c + 1 + 1 + 1 + 1 := w64_eq (by omega) (by omega)
    have e5 : w64 (c + 1 + 1 + 1 + 1 + 1) = c + 1 + 1 + 1 + 1 + 1 := w64_eq (by omega) (by omega)
    have e6 : w64 (c + 1 + 1 + 1 + 1 + 1 + 1) = c + 1 + 1 + 1 + 1 + 1 + 1 := w64_eq (by omega) (by omega)
    have e7 : w64 (c + 1 + 1 + 1 + 1 + 1 + 1 + 1) = c + 1 + 1 + 1 + 1 + 1 + 1 + 1 := w64_eq (by omega) (by omega)
    have e8 : w64 (c + 1 + 1 + 1 + 1 + 1 + 1 + 1 + 1) = c + 1 + 1 + 1 + 1 + 1 + 1 + 1 + 1 := w64_eq (by omega) (by omega)
    have e9 : w64 (c + 1 + 1 + 1 + 1 + 1 + 1 + 1 + 1 + 1) = c + 1 + 1 + 1 + 1 + 1 + 1 + 1 + 1 + 1 := w64_eq (by omega) (by omega)
    have e10 : w64 (c + 1 + 1 + 1 + 1 + 1 + 1 + 1 + 1 + 1 + 1) = c + 1 + 1 + 1 + 1 + 1 + 1 + 1 + 1 + 1 + 1 := w64_eq (by omega) (by omega)
    repeat
      with_reducible refine lt_intro fun t e => ?_
      try simp only [hy, hr, e1, e2, e3, e4, e5, e6, e7, e8, e9, e10, List.set_set, Int.toNat_natCast] at e
      subst t
    simp only [List.length_set, h0i, lt_true hi', cond_true, w_succ (show i ≤ 4294967296 by omega), e10]
    rw [cl_eq hp]
    simp only [Int.toNat_natCast, List.set_set]
    rfl)⟩
theorem s_lheldTstTestS : C_lheldTstTestS (fun x => mkPre (szL szT) x.1 x.2.1) (fun x => (hdOf (markL mkTst) x.1 x.2.1, ())) := S_lheldTstTestS s_lheldDecDecS fun x hx => ⟨List.length x.1 + 1, (ev_lheldTstTestS _ x.1 x.2.1).trans (by
  obtain ⟨h1, h2⟩ := mkPre_iff.1 hx
  have hl : List.length x.1 ≤ szL szT x.1 := szL_len szT_pos x.1
  refine held_loop (α := MTst) (mk := mkTst) (sz := szT) mkTst_ok x.1 4294967296 (fun k i c => r_lheldTstTestS (fun x => (hdOf (markL mkDec) x.1 x.2.1, ())) (fun x => mkPre (szL (fun _ => 2)) x.1 x.2.1) (x.1, x.2.1, ()) k [false, true, false, true] (h0_lheldTstTestS x.1 x.2.1 c (i : Int))) (fun k c => ?_) (fun k i y r c hd hi h0 hB => ?_) x.2.1 h1 h2
  · rw [rd0_lheldTstTestS]
    repeat with_reducible refine lt_intro fun t e => ?_
    rw [lt_false (Nat.le_refl _)]; rfl
  · have hB : c + ((10 + szL (fun _ => 2) y.2.2.2.2 : Nat) : Int) ≤ 4294967296 := hB
    have hp : mkPre (szL (fun _ => 2)) y.2.2.2.2 (c + 1 + 1 + 1 + 1 + 1 + 1 + 1 + 1 + 1 + 1) = true := mkPre_iff.2 ⟨by omega, by omega⟩
    have h0i : decide ((0 : Int) ≤ (i : Int)) = true := decide_eq_true (by omega)
    have hy := rdL_drop (S := S_TstTest) hd
    have e1 : w64 (c + 1) = c + 1 := w64_eq (by omega) (by omega)
    have e2 : w64 (c + 1 + 1) = c + 1 + 1 := w64_eq (by omega) (by omega)
    have e3 : w64 (c + 1 + 1 + 1) = c + 1 + 1 + 1 := w64_eq (by omega) (by omega)
    have e4 : w64 (c + 1 + 1 + 1 + 1) = c + 1 + 1 + 1 + 1 := w64_eq (by omega) (by omega)
    have e5 : w64 (c + 1 + 1 + 1 + 1 + 1) = c + 1 + 1 + 1 + 1 + 1 := w64_eq (by omega) (by omega)
    have e6 : w64 (c + 1 + 1 + 1 + 1 + 1 + 1) = c + 1 + 1 + 1 + 1 + 1 + 1 := w64_eq (by omega) (by omega)
    have e7 : w64 (c + 1 + 1 + 1 + 1 + 1 + 1 + 1) = c + 1 + 1 + 1 + 1 + 1 + 1 + 1 := w64_eq (by omega) (by omega)
    have e8 : w64 (c + 1 + 1 + 1 + 1 + 1 + 1 + 1 + 1) = c + 1 + 1 + 1 + 1 + 1 + 1 + 1 + 1 := w64_eq (by omega) (by omega)
    have e9 : w64 (c + 1 + 1 + 1 + 1 + 1 + 1 + 1 + 1 + 1) = c + 1 + 1 + 1 + 1 + 1 + 1 + 1 + 1 + 1 := w64_eq (by omega) (by omega)
    have e10 : w64 (c + 1 + 1 + 1 + 1 + 1 + 1 + 1 + 1 + 1 + 1) = c + 1 + 1 + 1 + 1 + 1 + 1 + 1 + 1 + 1 + 1 := w64_eq (by omega) (by omega)
    rw [rd0_lheldTstTestS]
    repeat
      with_reducible refine lt_intro fun t e => ?_
      try simp only [hy, e1, e2, e3, e4, e5, e6, e7, e8, e9, e10] at e
      subst t
    simp only [h0i, lt_true hi, cond_true, w_succ (show i ≤ 4294967296 by omega), e10]
    rw [cl_eq hp]
    have hg := mkDec_ok.list.go y.2.2.2.2 (c + 1 + 1 + 1 + 1 + 1 + 1 + 1 + 1 + 1 + 1)
    unfold mkTst
    simp only [same_pr, same_int]
    generalize same y.1.1 _ = b1
    generalize same y.1.2.1.1 _ = b2
    generalize same y.1.2.1.2 _ = b3
    generalize same y.1.2.2.1.1 _ = b4
    generalize same y.1.2.2.1.2 _ = b5
    generalize same y.1.2.2.2 _ = b6
    generalize same y.2.1 _ = b7
    generalize same y.2.2.1.1 _ = b8
    generalize same y.2.2.1.2 _ = b9
    generalize same y.2.2.2.1 _ = b10
    rcases mkDec_ok.list.hd (x := y.2.2.2.2) (k := c + 1 + 1 + 1 + 1 + 1 + 1 + 1 + 1 + 1 + 1) (by omega) with ⟨g1, g2, g3⟩ | ⟨g1, g2, g3⟩
    · rw [g2, g3]
      cases b1 <;> cases b2 <;> cases b3 <;> cases b4 <;> cases b5 <;> cases b6 <;> cases b7 <;> cases b8 <;> cases b9 <;> cases b10 <;> rfl
    · have e : hdOf (markL mkDec) y.2.2.2.2 (c + 1 + 1 + 1 + 1 + 1 + 1 + 1 + 1 + 1 + 1) = (markL mkDec y.2.2.2.2 (c + 1 + 1 + 1 + 1 + 1 + 1 + 1 + 1 + 1 + 1)).2 := by rw [g2, hg]
      rw [g3, e, decide_eq_false (show ¬ (markL mkDec y.2.2.2.2 (c + 1 + 1 + 1 + 1 + 1 + 1 + 1 + 1 + 1 + 1)).2 < 0 by omega)]
      cases b1 <;> try rfl
      cases b2 <;> try rfl
      cases b3 <;> try rfl
      cases b4 <;> try rfl
      cases b5 <;> try rfl
      cases b6 <;> try rfl
      cases b7 <;> try rfl
      cases b8 <;> try rfl
      cases b9 <;> try rfl
      cases b10 <;> rfl)⟩
theorem mkT_go (l : List MTst) (k : Int) : (markL mkTst l k).2 = k + szL szT l := mkTst_ok.list.go l k
theorem mkS_go (l : List MSig) (k : Int) : (markL mkSig l k).2 = k + szL (fun _ => 3) l := mkSig_ok.list.go l k
theorem mkB_go (l : List Bool) (k : Int) : (markL mkBool l k).2 = k + szL (fun _ => 1) l := mkBool_ok.list.go l k
theorem mkBt_go (l : List MBat) (k : Int) : (markL mkBat l k).2 = k + szL szB l := mkBat_ok.list.go l k
theorem mkSp_go (l : List MSpc) (k : Int) : (markL mkSpc l k).2 = k + szL szS l := mkSpc_ok.list.go l k
theorem mkI_go (l : List Int) (k : Int) : (markL mkInt l k).2 = k + szL (fun _ => 1) l := mkInt_ok.list.go l k
theorem s_lmarkBatBatch : C_lmarkBatBatch (fun x => mkPre szBI x.1 x.2.1) (fun x => ((mkBatI x.1 x.2.1).2, ((mkBatI x.1 x.2.1).1, ()))) := S_lmarkBatBatch s_lmarkTstTestS s_lmarkBatSigS s_lmarkBoolS fun x hx => ⟨0, (ev_lmarkBatBatch 0 x.1 x.2.1).trans (by
  obtain ⟨x, k, u⟩ := x
  change MBat at x
  change Int at k
  obtain ⟨h1, h2⟩ := mkPre_iff.1 hx
  have h1 : 0 ≤ k := h1
  have h2 : k + ((szL szT x.2.2.1 + szL (fun _ => 3) x.2.2.2.2.1 + szL (fun _ => 1) x.2.2.2.2.2 : Nat) : Int) ≤ 4294967296 := h2
  dsimp only
  have g0 := mkTst_ok.list.go x.2.2.1 k
  have g1 := mkSig_ok.list.go x.2.2.2.2.1 (markL mkTst x.2.2.1 k).2
  have g2 := mkBool_ok.list.go x.2.2.2.2.2 (markL mkSig x.2.2.2.2.1 (markL mkTst x.2.2.1 k).2).2
  rw [cl_eq (show mkPre (szL szT) x.2.2.1 k = true from mkPre_iff.2 ⟨by omega, by omega⟩)]
  try dsimp only
  rw [cl_eq (show mkPre (szL (fun _ => 3)) x.2.2.2.2.1 (markL mkTst x.2.2.1 k).2 = true from mkPre_iff.2 ⟨by omega, by omega⟩)]
  try dsimp only
  rw [cl_eq (show mkPre (szL (fun _ => 1)) x.2.2.2.2.2 (markL mkSig x.2.2.2.2.1 (markL mkTst x.2.2.1 k).2).2 = true from mkPre_iff.2 ⟨by omega, by omega⟩)]
  try dsimp only
  rfl)⟩
theorem s_lheldBatBatch : C_lheldBatBatch (fun x => mkPre szBI x.1 x.2.1) (fun x => (hdOf mkBatI x.1 x.2.1, ())) := S_lheldBatBatch s_lheldTstTestS s_lheldBatSigS s_lheldBoolS fun x hx => ⟨0, (ev_lheldBatBatch 0 x.1 x.2.1).trans (by
  obtain ⟨x, k, u⟩ := x
  change MBat at x
  change Int at k
  obtain ⟨h1, h2⟩ := mkPre_iff.1 hx
  have h1 : 0 ≤ k := h1
  have h2 : k + ((szL szT x.2.2.1 + szL (fun _ => 3) x.2.2.2.2.1 + szL (fun _ => 1) x.2.2.2.2.2 : Nat) : Int) ≤ 4294967296 := h2
  dsimp only
  have g0 := mkTst_ok.list.go x.2.2.1 k
  have g1 := mkSig_ok.list.go x.2.2.2.2.1 (markL mkTst x.2.2.1 k).2
  have g2 := mkBool_ok.list.go x.2.2.2.2.2 (markL mkSig x.2.2.2.2.1 (markL mkTst x.2.2.1 k).2).2
  have hs : hdOf mkBatI x k = bif (same x.2.2.1 (markL mkTst x.2.2.1 k).1 && (same x.2.2.2.2.1 (markL mkSig x.2.2.2.2.1 (markL mkTst x.2.2.1 k).2).1 && (same x.2.2.2.2.2 (markL mkBool x.2.2.2.2.2 (markL mkSig x.2.2.2.2.1 (markL mkTst x.2.2.1 k).2).2).1))) then (markL mkBool x.2.2.2.2.2 (markL mkSig x.2.2.2.2.1 (markL mkTst x.2.2.1 k).2).2).2 else -1 := by
    unfold hdOf
    rw [← same_batch x]
    show (bif (same x.1 x.1 && (same x.2.1 x.2.1 && (same x.2.2.1 _ && (same x.2.2.2.1 x.2.2.2.1 && (same x.2.2.2.2.1 _ && (same x.2.2.2.2.2 _ && true)))))) then _ else _) = _
    rw [same_self, same_self, same_self, Bool.true_and, Bool.true_and, Bool.true_and, Bool.and_true]; rfl
  rw [hs]
  rw [cl_eq (show mkPre (szL szT) x.2.2.1 k = true from mkPre_iff.2 ⟨by omega, by omega⟩)]
  rcases mkTst_ok.list.hd (x := x.2.2.1) (k := k) (by omega) with ⟨q1, q2, q3⟩ | ⟨q1, q2, q3⟩
  · rw [q2, q3]; rfl
  · have e : hdOf (markL mkTst) x.2.2.1 k = (markL mkTst x.2.2.1 k).2 := by rw [q2, g0]
    rw [q3, e, decide_eq_false (show ¬ (markL mkTst x.2.2.1 k).2 < 0 by omega)]
    try simp only [cond_false]
    rw [cl_eq (show mkPre (szL (fun _ => 3)) x.2.2.2.2.1 (markL mkTst x.2.2.1 k).2 = true from mkPre_iff.2 ⟨by omega, by omega⟩)]
    rcases mkSig_ok.list.hd (x := x.2.2.2.2.1) (k := (markL mkTst x.2.2.1 k).2) (by omega) with ⟨q1, q2, q3⟩ | ⟨q1, q2, q3⟩
    · rw [q2, q3]; rfl
    · have e : hdOf (markL mkSig) x.2.2.2.2.1 (markL mkTst x.2.2.1 k).2 = (markL mkSig x.2.2.2.2.1 (markL mkTst x.2.2.1 k).2).2 := by rw [q2, g1]
      rw [q3, e, decide_eq_false (show ¬ (markL mkSig x.2.2.2.2.1 (markL mkTst x.2.2.1 k).2).2 < 0 by omega)]
      try simp only [cond_false]
      rw [cl_eq (show mkPre (szL (fun _ => 1)) x.2.2.2.2.2 (markL mkSig x.2.2.2.2.1 (markL mkTst x.2.2.1 k).2).2 = true from mkPre_iff.2 ⟨by omega, by omega⟩)]
      rcases mkBool_ok.list.hd (x := x.2.2.2.2.2) (k := (markL mkSig x.2.2.2.2.1 (markL mkTst x.2.2.1 k).2).2) (by omega) with ⟨q1, q2, q3⟩ | ⟨q1, q2, q3⟩
      · rw [q2, q3]; rfl
      · have e : hdOf (markL mkBool) x.2.2.2.2.2 (markL mkSig x.2.2.2.2.1 (markL mkTst x.2.2.1 k).2).2 = (markL mkBool x.2.2.2.2.2 (markL mkSig x.2.2.2.2.1 (markL mkTst x.2.2.1 k).2).2).2 := by rw [q2, g2]
        rw [q3, e, decide_eq_false (show ¬ (markL mkBool x.2.2.2.2.2 (markL mkSig x.2.2.2.2.1 (markL mkTst x.2.2.1 k).2).2).2 < 0 by omega)]
        try simp only [cond_false]
        rfl)⟩
end Go.Proofs.Ytijolcgmciclhaa

set_option linter.unusedVariables false
set_option linter.unusedSimpArgs false
namespace Go.Proofs.Ytijolcgmciclhaa
open Go.Vm
theorem s_lFnExactBatNew : C_lFnExactBatNew (lawPre _) (fun _ => (true, ())) := S_lFnExactBatNew s_lszSpcTestS s_ltoSpcTestS s_sBatNew s_iBatNew s_leqBatBatch s_leqSpcTestS s_lmarkSpcTestS s_lmarkBatBatch s_lheldBatBatch fun x hx => ⟨0, (ev_lFnExactBatNew 0 x.1 x.2.1 x.2.2.1).trans (by
  have hw := lawPre_iff.1 hx
  obtain ⟨k, l, n, u⟩ := x
  change Int at k
  change List MAsk at l
  change Int at n
  have h1 : okLen (List.length l) = true := okLen_iff.2 hw.2.1.1
  have h2 : inq (1048576 : Int) 0 1048576 = true := rfl
  simp only [h1, h2, Bool.and_self, cond_true, cl]
  by_cases h : szAsk l 1048576 < 0
  · have h'' : decide ((if (1048576 : Int) < (List.length l : Int) then -1 else 1048576 - (List.length l : Int)) < 0) = true := decide_eq_true h
    simp only [h'', cond_true]
  · have h'' : decide ((if (1048576 : Int) < (List.length l : Int) then -1 else 1048576 - (List.length l : Int)) < 0) = false := decide_eq_false h
    have ht := szAsk_small (Int.le_refl _) (Int.not_lt.1 h)
    have h3 : decide (List.length l ≤ 4294967296) = true := decide_eq_true (Nat.le_trans ht (by decide))
    have h3' : smA l = true := h3
    have hm : mkPre (szL (fun _ => 6)) l 1 = true := mkPre_iff.2 ⟨by decide, by rw [szL_const]; omega⟩
    have hr : smB (batNew k l n) = true ∧ mkPre szBI (batNew k l n) 1 = true := by
      rcases batNew_cases k l n with ⟨_, _, _, e⟩ | ⟨e, _⟩
      · rw [e]
        refine ⟨smB_new (Nat.le_trans ht (by decide)), mkPre_iff.2 ⟨by decide, ?_⟩⟩
        show (1 : Int) + ((szL szT (l.map newT) + 0 + 0 : Nat) : Int) ≤ _
        rw [szL_map]
        have e2 : (fun x => szT (newT x)) = fun _ => 10 := rfl
        rw [e2, szL_const]
        omega
      · rw [e]; exact ⟨rfl, rfl⟩
    generalize batNew k l n = B at hr
    obtain ⟨hr1, hr2⟩ := hr
    have p1 : decide ((markL mkAsk l 1).2 < 0) = false := mkAsk_ok.list.pos (by decide)
    have p2 : decide ((mkBatI B 1).2 < 0) = false := mkBatI_ok.pos (by decide)
    have p3 : mkPre szBI (B.1, B.2.1, (mkBatI B 1).1.2.2.1, B.2.2.2.1, (mkBatI B 1).1.2.2.2.2) 1 = true := mkBatI_ok.pre hr2
    have p4 : hdOf mkBatI (B.1, B.2.1, (mkBatI B 1).1.2.2.1, B.2.2.2.1, (mkBatI B 1).1.2.2.2.2) 1 = (mkBatI B 1).2 := mkBatI_ok.held B 1
    simp only [h'', h3, h3', hm, hr1, hr2, p1, p2, p3, p4, same_self, beq_self_eq_true, Bool.and_self, cond_true, cond_false, decide_eq_true_eq, decide_true])⟩

end Go.Proofs.Ytijolcgmciclhaa
