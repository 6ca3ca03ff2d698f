/- The contracts: decimals. -/
import Derived.Test.YtkjimaolpijoiaaFnSpcRaiseEq0
import Derived.Test.YtkjimaolpijoiaaLp1
import Derived.Test.YtkjimaolpijoiaaMo1
import Derived.Test.YtkjimaolpijoiaaMo2
import Derived.Test.YtkjimaolpijoiaaMo3
import Derived.Test.YtkjimaolpijoiaaMo4
import Derived.Test.YtkjimaolpijoiaaMo5
import Derived.Test.YtkjimaolpijoiaaMo6
import Derived.Test.YtkjimaolpijoiaaMo7
import Derived.Test.YtkjimaolpijoiaaMo8
import Derived.Test.YtkjimaolpijoiaaMo9
set_option linter.unusedVariables false
set_option linter.unusedSimpArgs false
namespace Go.Proofs.Ytkjimaolpijoiaa
open Go.Vm

theorem s_iin : C_iin (fun _ => true) (fun x => (inq x.1 x.2.1 x.2.2.1, ())) := S_iin fun x _ => ⟨0, (ev_iin 0 x.1 x.2.1 x.2.2.1).trans (by
  simp only [bif_some, bif_pair, bif_and]; rfl)⟩
theorem s_sl1In : C_sl1In (fun _ => true) (fun x => (inq x.1 x.2.1 x.2.2.1, ())) := S_sl1In fun x _ => ⟨0, (ev_sl1In 0 x.1 x.2.1 x.2.2.1).trans (by
  simp only [bif_some, bif_pair, bif_and]; rfl)⟩

/-- Ten, so many times. -/
theorem pw_step {i : Nat} (h : i < 18) : w64 ((10 : Int) ^ i * (10 : Int)) = 10 ^ (i + 1) := by
  have : (10 : Int) ^ (i + 1) ≤ 10 ^ 18 := by exact_mod_cast Nat.pow_le_pow_right (by decide) (by omega)
  have h2 : (0 : Int) < 10 ^ (i + 1) := Int.pow_pos (by decide)
  rw [← Int.pow_succ, w64_eq (by omega) (by omega)]

theorem p_ipower (n : Int) (hn : n ≤ 18) : r_ipower (n, ()) (n.toNat + 1) [false, true, false, true, true] (h0_ipower n (1 : Int) (0 : Int)) = some (pw n, ()) := by
  by_cases h0 : n ≤ 0
  · have : n.toNat = 0 := by omega
    rw [this, rd0_ipower]
    have : decide ((0 : Int) < n) = false := decide_eq_false (by omega)
    rw [this]
    show some ((1 : Int), ()) = _
    unfold pw
    rw [show n.toNat = 0 by omega]; rfl
  · have hc : (n.toNat : Int) = n := by omega
    refine count_loop (σ := Unit) n.toNat (fun k i _ => r_ipower (n, ()) k [false, true, false, true, true] (h0_ipower n ((10 : Int) ^ i) (i : Int))) (fun _ _ => (pw n, ())) (fun _ _ => True) (fun k s _ => ?_) (fun k i s hi _ => ?_) n.toNat 0 () (by omega) trivial
    · rw [rd0_ipower, show decide ((n.toNat : Int) < n) = false from decide_eq_false (by omega)]
      rfl
    · refine .inr ⟨(), trivial, ?_, rfl⟩
      rw [rd0_ipower, show decide ((i : Int) < n) = true from decide_eq_true (by omega), pw_step (by omega), w_succ (by omega)]
      rfl
theorem s_ipower : C_ipower (fun x => decide (x.1 ≤ 18)) (fun x => (pw x.1, ())) := S_ipower fun x hx => ⟨_, (ev_ipower _ x.1).trans (p_ipower x.1 (of_decide_eq_true hx))⟩
theorem p_sl1Ten (n : Int) (hn : n ≤ 18) : r_sl1Ten (n, ()) (n.toNat + 1) [false, true, false, true, true] (h0_sl1Ten n (1 : Int) (0 : Int)) = some (pw n, ()) := by
  by_cases h0 : n ≤ 0
  · have : n.toNat = 0 := by omega
    rw [this, rd0_sl1Ten]
    have : decide ((0 : Int) < n) = false := decide_eq_false (by omega)
    rw [this]
    show some ((1 : Int), ()) = _
    unfold pw
    rw [show n.toNat = 0 by omega]; rfl
  · have hc : (n.toNat : Int) = n := by omega
    refine count_loop (σ := Unit) n.toNat (fun k i _ => r_sl1Ten (n, ()) k [false, true, false, true, true] (h0_sl1Ten n ((10 : Int) ^ i) (i : Int))) (fun _ _ => (pw n, ())) (fun _ _ => True) (fun k s _ => ?_) (fun k i s hi _ => ?_) n.toNat 0 () (by omega) trivial
    · rw [rd0_sl1Ten, show decide ((n.toNat : Int) < n) = false from decide_eq_false (by omega)]
      rfl
    · refine .inr ⟨(), trivial, ?_, rfl⟩
      rw [rd0_sl1Ten, show decide ((i : Int) < n) = true from decide_eq_true (by omega), pw_step (by omega), w_succ (by omega)]
      rfl
theorem s_sl1Ten : C_sl1Ten (fun x => decide (x.1 ≤ 18)) (fun x => (pw x.1, ())) := S_sl1Ten fun x hx => ⟨_, (ev_sl1Ten _ x.1).trans (p_sl1Ten x.1 (of_decide_eq_true hx))⟩
theorem near_arith {n d : Int} (h : nrPre n d = true) (h0 : 0 ≤ n) : w64 (Int.tdiv (w64 (w64 ((2 : Int) * n) + d)) (w64 ((2 : Int) * d))) = near n d ∧ decide (w64 ((2 : Int) * d) = (0 : Int)) = false ∧ 0 ≤ near n d ∧ near n d ≤ 2000000000000000 := by
  obtain ⟨⟨h1, h2⟩, h3, h4⟩ := nrPre_iff.1 h
  have e1 : w64 ((2 : Int) * d) = 2 * d := w64_eq (by omega) (by omega)
  have e2 : w64 ((2 : Int) * n) = 2 * n := w64_eq (by omega) (by omega)
  have e3 : w64 (2 * n + d) = 2 * n + d := w64_eq (by omega) (by omega)
  have e4 : Int.tdiv (2 * n + d) (2 * d) = (2 * n + d) / (2 * d) := Int.tdiv_eq_ediv_of_nonneg (by omega)
  have a1 : 0 ≤ (2 * n + d) / (2 * d) := Int.ediv_nonneg (by omega) (by omega)
  have a2 : (2 * n + d) / (2 * d) ≤ n + d := by
    refine Int.ediv_le_of_le_mul (by omega) ?_
    have : n + d ≤ (n + d) * d := by
      have := Int.mul_le_mul_of_nonneg_left (show (1 : Int) ≤ d by omega) (show 0 ≤ n + d by omega)
      omega
    have e : (n + d) * (2 * d) = 2 * ((n + d) * d) := by rw [Int.mul_left_comm]
    omega
  have e5 : near n d = (2 * n + d) / (2 * d) := by unfold near; rw [if_neg (by omega)]
  rw [e1, e2, e3, e4, e5]
  exact ⟨w64_eq (by omega) (by omega), decide_eq_false (by omega), a1, by omega⟩

theorem near_neg {n d : Int} (h : n < 0) : near n d = -(near (-n) d) := by
  unfold near; rw [if_pos h, if_neg (by omega)]
theorem p_inearest_up {n d : Int} {g p} (h : nrPre n d = true) (h0 : 0 ≤ n) : E_inearest g p 0 (n, d, ()) = some (near n d, ()) := (ev_inearest 0 n d).trans (by
  obtain ⟨h1, h2, _⟩ := near_arith h h0
  rw [show decide (n < (0 : Int)) = false from decide_eq_false (by omega), h2, h1]
  rfl)
theorem s_inearest_up : C_inearest (fun x => nrPre x.1 x.2.1 && decide (0 ≤ x.1)) (fun x => (near x.1 x.2.1, ())) := S_inearest (S0_inearest (fn := fun _ => (0, ()))) fun x hx => ⟨0, p_inearest_up (Bool.and_eq_true_iff.1 hx).1 (of_decide_eq_true (Bool.and_eq_true_iff.1 hx).2)⟩
theorem p_inearest {n d : Int} (hx : nrPre n d = true) : E_inearest (fun x => (near x.1 x.2.1, ())) (fun x => nrPre x.1 x.2.1 && decide (0 ≤ x.1)) 0 (n, d, ()) = some (near n d, ()) := by
  obtain ⟨⟨h1, h2⟩, h3, h4⟩ := nrPre_iff.1 hx
  by_cases h0 : n < 0
  · refine (ev_inearest 0 n d).trans ?_
    have e : w64 ((0 : Int) - n) = -n := by rw [w64_eq (by omega) (by omega)]; omega
    have hp : nrPre (-n) d = true := nrPre_iff.2 ⟨⟨by omega, by omega⟩, h3, h4⟩
    obtain ⟨_, _, g1, g2⟩ := near_arith hp (by omega)
    rw [show decide (n < (0 : Int)) = true from decide_eq_true h0, e]
    simp only [cond_true, hp, show decide (0 ≤ -n) = true from decide_eq_true (by omega), Bool.and_self]
    rw [near_neg h0, show w64 ((0 : Int) - near (-n) d) = -near (-n) d from by rw [w64_eq (by omega) (by omega)]; omega]
  · exact p_inearest_up hx (by omega)
theorem s_inearest : C_inearest (fun x => nrPre x.1 x.2.1) (fun x => (near x.1 x.2.1, ())) := S_inearest s_inearest_up fun x hx => ⟨0, p_inearest hx⟩
theorem p_sl1Near_up {n d : Int} {g p} (h : nrPre n d = true) (h0 : 0 ≤ n) : E_sl1Near g p 0 (n, d, ()) = some (near n d, ()) := (ev_sl1Near 0 n d).trans (by
  obtain ⟨h1, h2, _⟩ := near_arith h h0
  rw [show decide (n < (0 : Int)) = false from decide_eq_false (by omega), h2, h1]
  rfl)
theorem s_sl1Near_up : C_sl1Near (fun x => nrPre x.1 x.2.1 && decide (0 ≤ x.1)) (fun x => (near x.1 x.2.1, ())) := S_sl1Near (S0_sl1Near (fn := fun _ => (0, ()))) fun x hx => ⟨0, p_sl1Near_up (Bool.and_eq_true_iff.1 hx).1 (of_decide_eq_true (Bool.and_eq_true_iff.1 hx).2)⟩
theorem p_sl1Near {n d : Int} (hx : nrPre n d = true) : E_sl1Near (fun x => (near x.1 x.2.1, ())) (fun x => nrPre x.1 x.2.1 && decide (0 ≤ x.1)) 0 (n, d, ()) = some (near n d, ()) := by
  obtain ⟨⟨h1, h2⟩, h3, h4⟩ := nrPre_iff.1 hx
  by_cases h0 : n < 0
  · refine (ev_sl1Near 0 n d).trans ?_
    have e : w64 ((0 : Int) - n) = -n := by rw [w64_eq (by omega) (by omega)]; omega
    have hp : nrPre (-n) d = true := nrPre_iff.2 ⟨⟨by omega, by omega⟩, h3, h4⟩
    obtain ⟨_, _, g1, g2⟩ := near_arith hp (by omega)
    rw [show decide (n < (0 : Int)) = true from decide_eq_true h0, e]
    simp only [cond_true, hp, show decide (0 ≤ -n) = true from decide_eq_true (by omega), Bool.and_self]
    rw [near_neg h0, show w64 ((0 : Int) - near (-n) d) = -near (-n) d from by rw [w64_eq (by omega) (by omega)]; omega]
  · exact p_sl1Near_up hx (by omega)
theorem s_sl1Near : C_sl1Near (fun x => nrPre x.1 x.2.1) (fun x => (near x.1 x.2.1, ())) := S_sl1Near s_sl1Near_up fun x hx => ⟨0, p_sl1Near hx⟩

end Go.Proofs.Ytkjimaolpijoiaa
