/- The functions that FnBatShut reaches: what each of them answers, part 1. Conditions stand in each contract. -/
import Derived.Test.YtddpemilmeijfaaGreatFnBatShutEq1
import Derived.Test.YtddpemilmeijfaaGreatFnBatShutMoA
set_option linter.unusedVariables false
set_option linter.unusedSimpArgs false
namespace Go.Proofs.YtddpemilmeijfaaGreat
open Go.Vm
theorem s_iin : C_iin (fun _ => true) (fun x => (inq x.1 x.2.1 x.2.2.1, ())) := S_iin fun x _ => ⟨0, (ev_iin 0 x.1 x.2.1 x.2.2.1).trans (by
 simp only [Qec, Qed, Qfh]; rfl)⟩
theorem s_a3 : C_a3 (fun _ => true) (fun x => (inq x.1 x.2.1 x.2.2.1, ())) := S_a3 fun x _ => ⟨0, (ev_a3 0 x.1 x.2.1 x.2.2.1).trans (by
 simp only [Qec, Qed, Qfh]; rfl)⟩
theorem Qo3 {i : Nat} (h : i < 18) : w64 ((10 : Int) ^ i * (10 : Int)) = 10 ^ (i + 1) := by
 have : (10 : Int) ^ (i + 1) <= 10 ^ 18 := by exact_mod_cast Nat.pow_le_pow_right (by decide) (by omega)
 have h2 : (0 : Int) < 10 ^ (i + 1) := Int.pow_pos (by decide)
 rw [<- Int.pow_succ, Qak (by omega) (by omega)]
theorem p_c3 (n : Int) (hn : n <= 18) : r_c3 (n, ()) (n.toNat + 1) pt0 (h0_c3 n (1 : Int) (0 : Int)) = some (pw n, ()) := by
 by_cases h0 : n <= 0
 ·have : n.toNat = 0 := by omega
  rw [this, rd0_c3]
  have : decide ((0 : Int) < n) = false := decide_eq_false (by omega)
  rw [this]
  show some ((1 : Int), ()) = _
  unfold pw
  rw [show n.toNat = 0 by omega]; rfl
 ·have hc : (n.toNat : Int) = n := by omega
  refine Qg8 (σ := Unit) n.toNat (fun k i _ => r_c3 (n, ()) k pt0 (h0_c3 n ((10 : Int) ^ i) (i : Int))) (fun _ _ => (pw n, ())) (fun _ _ => True) (fun k s _ => ?_) (fun k i s hi _ => ?_) n.toNat 0 () (by omega) trivial
  ·rw [rd0_c3, show decide ((n.toNat : Int) < n) = false from decide_eq_false (by omega)]
   rfl
  ·refine .inr ⟨(), trivial, ?_, rfl⟩
   rw [rd0_c3, show decide ((i : Int) < n) = true from decide_eq_true (by omega), Qo3 (by omega), Qan (by omega)]
   rfl
theorem s_c3 : C_c3 (fun x => decide (x.1 <= 18)) (fun x => (pw x.1, ())) := S_c3 fun x hx => ⟨_, (ev_c3 _ x.1).trans (p_c3 x.1 (of_decide_eq_true hx))⟩
theorem p_a5 (n : Int) (hn : n <= 18) : r_a5 (n, ()) (n.toNat + 1) pt0 (h0_a5 n (1 : Int) (0 : Int)) = some (pw n, ()) := by
 by_cases h0 : n <= 0
 ·have : n.toNat = 0 := by omega
  rw [this, rd0_a5]
  have : decide ((0 : Int) < n) = false := decide_eq_false (by omega)
  rw [this]
  show some ((1 : Int), ()) = _
  unfold pw
  rw [show n.toNat = 0 by omega]; rfl
 ·have hc : (n.toNat : Int) = n := by omega
  refine Qg8 (σ := Unit) n.toNat (fun k i _ => r_a5 (n, ()) k pt0 (h0_a5 n ((10 : Int) ^ i) (i : Int))) (fun _ _ => (pw n, ())) (fun _ _ => True) (fun k s _ => ?_) (fun k i s hi _ => ?_) n.toNat 0 () (by omega) trivial
  ·rw [rd0_a5, show decide ((n.toNat : Int) < n) = false from decide_eq_false (by omega)]
   rfl
  ·refine .inr ⟨(), trivial, ?_, rfl⟩
   rw [rd0_a5, show decide ((i : Int) < n) = true from decide_eq_true (by omega), Qo3 (by omega), Qan (by omega)]
   rfl
theorem s_a5 : C_a5 (fun x => decide (x.1 <= 18)) (fun x => (pw x.1, ())) := S_a5 fun x hx => ⟨_, (ev_a5 _ x.1).trans (p_a5 x.1 (of_decide_eq_true hx))⟩
theorem Qe9 {n d : Int} (h : nrPre n d = true) (h0 : 0 <= n) : w64 (Int.tdiv (w64 (w64 ((2 : Int) * n) + d)) (w64 ((2 : Int) * d))) = near n d /\ decide (w64 ((2 : Int) * d) = (0 : Int)) = false /\ 0 <= near n d /\ near n d <= 2000000000000000 := by
 obtain ⟨⟨h1, h2⟩, h3, h4⟩ := Qcs.1 h
 have e1 : w64 ((2 : Int) * d) = 2 * d := Qak (by omega) (by omega)
 have e2 : w64 ((2 : Int) * n) = 2 * n := Qak (by omega) (by omega)
 have e3 : w64 (2 * n + d) = 2 * n + d := Qak (by omega) (by omega)
 have e4 : Int.tdiv (2 * n + d) (2 * d) = (2 * n + d) / (2 * d) := Int.tdiv_eq_ediv_of_nonneg (by omega)
 have a1 : 0 <= (2 * n + d) / (2 * d) := Int.ediv_nonneg (by omega) (by omega)
 have a2 : (2 * n + d) / (2 * d) <= n + d := by
  refine Int.ediv_le_of_le_mul (by omega) ?_
  have : n + d <= (n + d) * d := by
   have := Int.mul_le_mul_of_nonneg_left (show (1 : Int) <= d by omega) (show 0 <= n + d by omega)
   omega
  have e : (n + d) * (2 * d) = 2 * ((n + d) * d) := by rw [Int.mul_left_comm]
  omega
 have e5 : near n d = (2 * n + d) / (2 * d) := by unfold near; rw [if_neg (by omega)]
 rw [e1, e2, e3, e4, e5]
 exact ⟨Qak (by omega) (by omega), decide_eq_false (by omega), a1, by omega⟩
theorem Qnz {n d : Int} (h : n < 0) : near n d = -(near (-n) d) := by
 unfold near; rw [if_pos h, if_neg (by omega)]
theorem p_inearest_up {n d : Int} {g p} (h : nrPre n d = true) (h0 : 0 <= n) : E_c5 g p 0 (n, d, ()) = some (near n d, ()) := (ev_c5 0 n d).trans (by
 obtain ⟨h1, h2, _⟩ := Qe9 h h0
 rw [show decide (n < (0 : Int)) = false from decide_eq_false (by omega), h2, h1]
 rfl)
theorem s_inearest_up : C_c5 (fun x => nrPre x.1 x.2.1 && decide (0 <= x.1)) (fun x => (near x.1 x.2.1, ())) := S_c5 (S0_c5 (fn := fun _ => (0, ()))) fun x hx => ⟨0, p_inearest_up (Bool.and_eq_true_iff.1 hx).1 (of_decide_eq_true (Bool.and_eq_true_iff.1 hx).2)⟩
theorem p_c5 {n d : Int} (hx : nrPre n d = true) : E_c5 (fun x => (near x.1 x.2.1, ())) (fun x => nrPre x.1 x.2.1 && decide (0 <= x.1)) 0 (n, d, ()) = some (near n d, ()) := by
 obtain ⟨⟨h1, h2⟩, h3, h4⟩ := Qcs.1 hx
 by_cases h0 : n < 0
 ·refine (ev_c5 0 n d).trans ?_
  have e : w64 ((0 : Int) - n) = -n := by rw [Qak (by omega) (by omega)]; omega
  have hp : nrPre (-n) d = true := Qcs.2 ⟨⟨by omega, by omega⟩, h3, h4⟩
  obtain ⟨_, _, g1, g2⟩ := Qe9 hp (by omega)
  rw [show decide (n < (0 : Int)) = true from decide_eq_true h0, e]
  simp only [cond_true, hp, show decide (0 <= -n) = true from decide_eq_true (by omega), Bool.and_self]
  rw [Qnz h0, show w64 ((0 : Int) - near (-n) d) = -near (-n) d from by rw [Qak (by omega) (by omega)]; omega]
 ·exact p_inearest_up hx (by omega)
theorem s_c5 : C_c5 (fun x => nrPre x.1 x.2.1) (fun x => (near x.1 x.2.1, ())) := S_c5 s_inearest_up fun x hx => ⟨0, p_c5 hx⟩
theorem p_sl1Near_up {n d : Int} {g p} (h : nrPre n d = true) (h0 : 0 <= n) : E_ac g p 0 (n, d, ()) = some (near n d, ()) := (ev_ac 0 n d).trans (by
 obtain ⟨h1, h2, _⟩ := Qe9 h h0
 rw [show decide (n < (0 : Int)) = false from decide_eq_false (by omega), h2, h1]
 rfl)
theorem s_sl1Near_up : C_ac (fun x => nrPre x.1 x.2.1 && decide (0 <= x.1)) (fun x => (near x.1 x.2.1, ())) := S_ac (S0_ac (fn := fun _ => (0, ()))) fun x hx => ⟨0, p_sl1Near_up (Bool.and_eq_true_iff.1 hx).1 (of_decide_eq_true (Bool.and_eq_true_iff.1 hx).2)⟩
theorem p_ac {n d : Int} (hx : nrPre n d = true) : E_ac (fun x => (near x.1 x.2.1, ())) (fun x => nrPre x.1 x.2.1 && decide (0 <= x.1)) 0 (n, d, ()) = some (near n d, ()) := by
 obtain ⟨⟨h1, h2⟩, h3, h4⟩ := Qcs.1 hx
 by_cases h0 : n < 0
 ·refine (ev_ac 0 n d).trans ?_
  have e : w64 ((0 : Int) - n) = -n := by rw [Qak (by omega) (by omega)]; omega
  have hp : nrPre (-n) d = true := Qcs.2 ⟨⟨by omega, by omega⟩, h3, h4⟩
  obtain ⟨_, _, g1, g2⟩ := Qe9 hp (by omega)
  rw [show decide (n < (0 : Int)) = true from decide_eq_true h0, e]
  simp only [cond_true, hp, show decide (0 <= -n) = true from decide_eq_true (by omega), Bool.and_self]
  rw [Qnz h0, show w64 ((0 : Int) - near (-n) d) = -near (-n) d from by rw [Qak (by omega) (by omega)]; omega]
 ·exact p_sl1Near_up hx (by omega)
theorem s_ac : C_ac (fun x => nrPre x.1 x.2.1) (fun x => (near x.1 x.2.1, ())) := S_ac s_sl1Near_up fun x hx => ⟨0, p_ac hx⟩
end Go.Proofs.YtddpemilmeijfaaGreat

set_option linter.unusedVariables false
set_option linter.unusedSimpArgs false
namespace Go.Proofs.YtddpemilmeijfaaGreat
open Go.Vm
theorem s_c4 : C_c4 (fun _ => true) (fun x => (decOk x.1, ())) := S_c4 s_iin s_c3 fun x _ => ⟨0, (ev_c4 0 x.1).trans (p_decOk x.1)⟩
theorem s_ab : C_ab (fun _ => true) (fun x => (decOk x.1, ())) := S_ab s_a3 s_a5 fun x _ => ⟨0, (ev_ab 0 x.1).trans (p_decOk x.1)⟩
theorem s_c6 : C_c6 (fun _ => true) (fun x => (decAt x.1 x.2.1, ())) := S_c6 s_c4 s_iin s_c3 s_c5 fun x _ => ⟨0, (ev_c6 0 x.1 x.2.1).trans (p_decAt x.1 x.2.1 _ fun h1 h2 => p_atR h1 h2)⟩
theorem s_ad : C_ad (fun x => decOk x.1 && inq x.2.1 0 3) (fun x => (atR x.1 x.2.1, ())) := S_ad s_a5 s_ac fun x hx => ⟨0, (ev_ad 0 x.1 x.2.1).trans (p_atR (Bool.and_eq_true_iff.1 hx).1 (Bool.and_eq_true_iff.1 hx).2)⟩
theorem s_ae : C_ae (fun _ => true) (fun x => (decAt x.1 x.2.1, ())) := S_ae s_ab s_a3 s_ad fun x _ => ⟨0, (ev_ae 0 x.1 x.2.1).trans (p_decAt x.1 x.2.1 _ fun h1 h2 => by
 simp only [h1, h2, Bool.and_self, cond_true])⟩
theorem s_c7 : C_c7 (fun _ => true) (fun _ => (false, ())) := S_c7 fun x _ => ⟨0, (ev_c7 0 x.1).trans (by
 rw [decide_eq_true rfl]; rfl)⟩
theorem s_c8 : C_c8 (fun _ => true) (fun x => (cmpI x.1 x.2.1, ())) := S_c8 s_c7 fun x _ => ⟨0, (ev_c8 0 x.1 x.2.1).trans (p_cmpI x.1 x.2.1)⟩
theorem s_c9 : C_c9 (fun _ => true) (fun x => (decCmp x.1 x.2.1, ())) := S_c9 s_c4 s_c6 s_c8 fun x _ => ⟨0, (ev_c9 0 x.1 x.2.1).trans (p_decCmp x.1 x.2.1 _ fun h1 h2 => by
 unfold decAt
 simp only [h1, h2, in03, Bool.and_self, cond_true])⟩
theorem s_at : C_at (fun _ => true) (fun x => (decCmp x.1 x.2.1, ())) := S_at s_ab s_ad fun x _ => ⟨0, (ev_at 0 x.1 x.2.1).trans (p_decCmp x.1 x.2.1 _ fun h1 h2 => by
 simp only [h1, h2, in03, Bool.and_self, cond_true]
 exact p_cmpI _ _)⟩
theorem s_c2 : C_c2 (fun _ => true) (fun x => (inq x.1 1 4, ())) := S_c2 s_iin fun x _ => ⟨0, ev_c2 0 x.1⟩
theorem s_ca : C_ca (fun _ => true) (fun x => (askOk x.1, ())) := S_ca s_c2 s_c4 s_c9 s_iin fun x _ => ⟨0, (ev_ca 0 x.1).trans (by
 simp only [Qec, Qed, Qfh]; rfl)⟩
theorem s_au : C_au (fun _ => true) (fun x => (askOk x.1, ())) := S_au s_a3 s_ab s_at fun x _ => ⟨0, (ev_au 0 x.1).trans (by
 simp only [Qec, Qed, Qfh]; rfl)⟩
theorem s_cg : C_cg (fun _ => true) (fun x => (spcIn x.1 x.2.1, ())) := S_cg s_ca s_c4 s_c6 s_c9 fun x _ => ⟨0, (ev_cg 0 x.1 x.2.1).trans (p_spcIn x.1 x.2.1 _ fun h1 h2 => by
 have h3 := Qjw h1
 have e : decAt x.2.1 x.1.2.2.2 = atR x.2.1 x.1.2.2.2 := by unfold decAt; rw [h2, h3]; rfl
 simp only [e, Qec, Qed, Qfh])⟩
theorem s_b4 : C_b4 (fun _ => true) (fun x => (spcIn x.1 x.2.1, ())) := S_b4 s_au s_ab s_ad s_at fun x _ => ⟨0, (ev_b4 0 x.1 x.2.1).trans (p_spcIn x.1 x.2.1 _ fun h1 h2 => by
 simp only [h2, Qjw h1, Bool.and_self, cond_true, Qec, Qed, Qfh])⟩
end Go.Proofs.YtddpemilmeijfaaGreat

set_option linter.unusedVariables false
set_option linter.unusedSimpArgs false
namespace Go.Proofs.YtddpemilmeijfaaGreat
open Go.Vm
theorem p_av (xs : List MAsk) (hx : xs.length <= 4294967296) : r_av (fun x => (inq x.1 x.2.1 x.2.2.1, ())) (fun x => (askOk x.1, ())) (xs, ()) (xs.length + 1) pt0 (h0_av xs ((0 : Nat) : Int)) = some (asksOk none xs && true, ()) := by
 refine Qrk xs hx true (fun k i => r_av (fun x => (inq x.1 x.2.1 x.2.2.1, ())) (fun x => (askOk x.1, ())) (xs, ()) k pt0 (h0_av xs (i : Int))) (fun k => ?_) (fun k i x r hd hi => ?_)
 ·rw [rd0_av, Qaj (Nat.le_refl _)]; rfl
 ·rw [rd0_av, Qai hi, Qal hi, Qan (by omega)]
  exact Qrl hx hd hi _ (fun j => rdL (e := S_SpcTest) xs j) (fun j hj => Qle j hj)
theorem s_av : C_av (fun _ => true) (fun x => (testsOk x.1, ())) := S_av s_a3 s_au fun x _ => ⟨List.length x.1 + 1, (ev_av _ x.1).trans (by
 unfold testsOk
 cases h : inq (List.length x.1) 1 4
 ·rfl
 ·have := Qar.1 h
  refine (p_av x.1 (by omega)).trans ?_
  rw [Bool.and_true]; rfl)⟩
end Go.Proofs.YtddpemilmeijfaaGreat

set_option linter.unusedVariables false
set_option linter.unusedSimpArgs false
namespace Go.Proofs.YtddpemilmeijfaaGreat
open Go.Vm
theorem p_aw (xs : List MSpc) (hx : xs.length <= 4294967296) : r_aw (fun x => (testsOk x.1, ())) (fun x => (inq x.1 x.2.1 x.2.2.1, ())) (xs, ()) (xs.length + 1) pt2 (h0_aw xs 0 ((0 : Nat) : Int)) = some (xs.all spcOk1 && decide (force xs <= 1), ()) := by
 refine Qrm xs hx (fun c => decide (c <= 1)) (fun k i c => r_aw (fun x => (testsOk x.1, ())) (fun x => (inq x.1 x.2.1 x.2.2.1, ())) (xs, ()) k pt2 (h0_aw xs c (i : Int))) (fun k c => ?_) (fun k i x r c hd hi h0 h1 => ?_)
 ·rw [rd0_aw, Qaj (Nat.le_refl _)]; rfl
 ·rw [rd0_aw, Qai hi, Qal hi, Qan (by omega), Qag hd, Qak (x := c + 1) (by omega) (by omega)]
  unfold spcOk1
  cases testsOk x.1 <;> cases inq x.2 1 3 <;> rfl
theorem s_aw : C_aw (fun _ => true) (fun x => (spcsOk x.1, ())) := S_aw s_av s_a3 fun x hx => ⟨List.length x.1 + 1, (ev_aw _ x.1).trans (by
 have key : ∀ xs : List MSpc, (bif decide ((6 : Int) < (xs.length : Int)) then some (false, ()) else r_aw (fun x => (testsOk x.1, ())) (fun x => (inq x.1 x.2.1 x.2.2.1, ())) (xs, ()) (xs.length + 1) pt2 (h0_aw xs 0 ((0 : Nat) : Int))) = some (spcsOk xs, ()) := fun xs => by
  unfold spcsOk
  by_cases h : (6 : Int) < (xs.length : Int)
  ·rw [decide_eq_true h, decide_eq_false (by omega)]; rfl
  ·rw [decide_eq_false h, decide_eq_true (by omega)]; exact p_aw xs (by omega)
 exact key x.1)⟩
end Go.Proofs.YtddpemilmeijfaaGreat

set_option linter.unusedVariables false
set_option linter.unusedSimpArgs false
namespace Go.Proofs.YtddpemilmeijfaaGreat
open Go.Vm
theorem Qis (a b : MDec) : Sh.beq S_DecDec a b = same a b := by
 show (decide (a.1 = b.1) && decide (a.2 = b.2)) = _
 rw [Qcw, Qcw, Qa8]
theorem s_cb : C_cb (fun _ => true) (fun x => (!decOk x.1, ())) := S_cb s_c4 fun x _ => ⟨0, (ev_cb 0 x.1).trans (by simp only [Qdx])⟩
theorem s_cc : C_cc (fun x => decide (List.length x.1 <= 4294967296)) (fun x => (idxOf (fun d => !decOk d) x.1 0, ())) := S_cc s_cb fun x hx => ⟨List.length x.1 + 1, (ev_cc _ x.1 x.2.1).trans (by
 have hx : List.length x.1 <= 4294967296 := of_decide_eq_true hx
 refine Qc6 (α := MDec) x.1 (fun d => !decOk d) (fun k i => r_cc (fun x => (!decOk x.1, ())) (x.1, x.2.1, ()) k pt1 (h0_cc x.1 x.2.1 (List.length x.1 : Int) (i : Int))) (fun k => ?_) (fun k i y r hd hi => ?_)
 ·rw [rd0_cc, Qaj (Nat.le_refl _)]; rfl
 ·rw [rd0_cc, Qai hi, Qal hi, Qan (by omega), Qag hd]; rfl)⟩
theorem s_cd : C_cd (fun x => decide (List.length x.1 <= 4294967296)) (fun x => (List.any x.1 (fun d => !decOk d), ())) := S_cd s_cc fun x hx => ⟨0, (ev_cd 0 x.1 x.2.1).trans (by
 have hx : decide (List.length x.1 <= 4294967296) = true := hx
 simp only [hx, cond_true, Qc7])⟩
theorem s_ce : C_ce (fun x => decide (List.length x.1 <= 4294967296)) (fun x => (List.all x.1 decOk, ())) := S_ce s_cd fun x hx => ⟨0, (ev_ce 0 x.1).trans (by
 have hx : decide (List.length x.1 <= 4294967296) = true := hx
 simp only [hx, cond_true, Qdx, Qdl])⟩
theorem s_cf : C_cf (fun _ => true) (fun x => (need x.1, ())) := S_cf fun x _ => ⟨0, (ev_cf 0 x.1).trans (by
 have key : ∀ c : Int, (bif (decide (c = (1 : Int))) then (some ((1 : Int), ())) else (bif (decide (c = (2 : Int))) then (some ((2 : Int), ())) else (some ((0 : Int), ())))) = some (need c, ()) := fun c => by
  unfold need
  by_cases h1 : c = 1
  ·rw [decide_eq_true h1, if_pos h1]; rfl
  ·rw [decide_eq_false h1, if_neg h1]
   by_cases h2 : c = 2
   ·rw [decide_eq_true h2, if_pos h2]; rfl
   ·rw [decide_eq_false h2, if_neg h2]; rfl
 exact key x.1)⟩
theorem s_b3 : C_b3 (fun _ => true) (fun x => (need x.1, ())) := S_b3 fun x _ => ⟨0, (ev_b3 0 x.1).trans (by
 have key : ∀ c : Int, (bif (decide (c = (1 : Int))) then (some ((1 : Int), ())) else (bif (decide (c = (2 : Int))) then (some ((2 : Int), ())) else (some ((0 : Int), ())))) = some (need c, ()) := fun c => by
  unfold need
  by_cases h1 : c = 1
  ·rw [decide_eq_true h1, if_pos h1]; rfl
  ·rw [decide_eq_false h1, if_neg h1]
   by_cases h2 : c = 2
   ·rw [decide_eq_true h2, if_pos h2]; rfl
   ·rw [decide_eq_false h2, if_neg h2]; rfl
 exact key x.1)⟩
theorem p_ch (l : List MDec) (p : Int) (hl : inq l.length 1 100 = true) (ho : l.all decOk = true) (hp : inq p 0 3 = true) :
  r_ch (fun x => (inq x.1 x.2.1 x.2.2.1, ())) (fun x => (List.all x.1 decOk, ())) (fun x => decide (List.length x.1 <= 4294967296)) (fun x => (decAt x.1 x.2.1, ())) (fun x => (pw x.1, ())) (fun x => decide (x.1 <= 18)) (fun x => (near x.1 x.2.1, ())) (fun x => nrPre x.1 x.2.1) (l, p, ()) (l.length + 1) pt2 (h0_ch l p 0 (l.length : Int) ((0 : Nat) : Int) (0, 0)) = some (decMean l p, ()) := by
 obtain ⟨h1, h2⟩ := Qar.1 hl
 obtain ⟨h3, h4⟩ := Qar.1 hp
 have := Qnf l (by omega) (fun c => (near (c * pw p) ((l.length : Int) * pw 3), p)) (fun k i c => r_ch (fun x => (inq x.1 x.2.1 x.2.2.1, ())) (fun x => (List.all x.1 decOk, ())) (fun x => decide (List.length x.1 <= 4294967296)) (fun x => (decAt x.1 x.2.1, ())) (fun x => (pw x.1, ())) (fun x => decide (x.1 <= 18)) (fun x => (near x.1 x.2.1, ())) (fun x => nrPre x.1 x.2.1) (l, p, ()) k pt2 (h0_ch l p c (l.length : Int) (i : Int) (0, 0))) (fun k c b1 b2 => ?_) (fun k i x r c hd hi b1 b2 => ?_)
 ·refine this.trans ?_
  rw [ho]
  unfold decMean
  rw [hl, ho, hp, Qrn hl hp]; rfl
 ·have hpw := pw_le h4
  have hpp := Qft p
  have p3 : pw 3 = 1000 := rfl
  have hpc : c * pw p <= 999900000000 /\ -999900000000 <= c * pw p := by
   rcases Qg9 h4 with e | e | e | e <;> rw [e] <;> omega
  rw [rd0_ch, Qaj (Nat.le_refl _)]
  simp only [cond_false, p3]
  rw [decide_eq_true (show p <= 18 by omega), Qak (x := c * pw p) (by omega) (by omega), Qak (x := (l.length : Int) * 1000) (by omega) (by omega)]
  have hn : nrPre (c * pw p) ((l.length : Int) * 1000) = true := Qcs.2 ⟨⟨by omega, by omega⟩, by omega, by omega⟩
  rw [hn]; rfl
 ·have hx : decOk x = true := List.all_eq_true.1 ho x (Qce hd)
  have hb := Qh9 hx
  rw [rd0_ch, Qai hi, Qal hi, Qan (by omega), Qag hd, hx]
  have e : decAt x 3 = atR x 3 := by unfold decAt; rw [hx]; rfl
  simp only [e, cond_true]
  rw [Qak (by omega) (by omega)]
theorem s_ch : C_ch (fun x => decide (List.length x.1 <= 4294967296)) (fun x => (decMean x.1 x.2.1, ())) := S_ch s_iin s_ce s_c6 s_c3 s_c5 fun x hx => ⟨List.length x.1 + 1, (ev_ch _ x.1 x.2.1).trans (by
 have hx : decide (List.length x.1 <= 4294967296) = true := hx
 simp only [hx, cond_true]
 cases hl : inq (List.length x.1) 1 100
 ·unfold decMean; rw [hl]; rfl
 ·cases ho : List.all x.1 decOk
  ·unfold decMean; rw [hl, ho]; rfl
  ·cases hp : inq x.2.1 0 3
   ·unfold decMean; rw [hl, ho, hp]; rfl
   ·exact p_ch x.1 x.2.1 hl ho hp)⟩
theorem p_b5 (l : List MDec) (p : Int) (hl : inq l.length 1 100 = true) (hp : inq p 0 3 = true) :
  r_b5 (fun x => (inq x.1 x.2.1 x.2.2.1, ())) (fun x => (decOk x.1, ())) (fun x => (atR x.1 x.2.1, ())) (fun x => decOk x.1 && inq x.2.1 0 3) (fun x => (pw x.1, ())) (fun x => decide (x.1 <= 18)) (fun x => (near x.1 x.2.1, ())) (fun x => nrPre x.1 x.2.1) (l, p, ()) (l.length + 1) pt2 (h0_b5 l p 0 ((0 : Nat) : Int) (0, 0)) = some (decMean l p, ()) := by
 obtain ⟨h1, h2⟩ := Qar.1 hl
 obtain ⟨h3, h4⟩ := Qar.1 hp
 have := Qnf l (by omega) (fun c => (near c ((l.length : Int) * pw (3 - p)), p)) (fun k i c => r_b5 (fun x => (inq x.1 x.2.1 x.2.2.1, ())) (fun x => (decOk x.1, ())) (fun x => (atR x.1 x.2.1, ())) (fun x => decOk x.1 && inq x.2.1 0 3) (fun x => (pw x.1, ())) (fun x => decide (x.1 <= 18)) (fun x => (near x.1 x.2.1, ())) (fun x => nrPre x.1 x.2.1) (l, p, ()) k pt2 (h0_b5 l p c (i : Int) (0, 0))) (fun k c b1 b2 => ?_) (fun k i x r c hd hi b1 b2 => ?_)
 ·refine this.trans ?_
  unfold decMean
  rw [hl, hp]
  cases l.all decOk <;> rfl
 ·have hpw := pw_le (n := 3 - p) (by omega)
  have hpp := Qft (3 - p)
  have hpc : (l.length : Int) * pw (3 - p) <= 100000 /\ 1 <= (l.length : Int) * pw (3 - p) := by
   rcases Qg9 (n := 3 - p) (by omega) with e | e | e | e <;> rw [e] <;> omega
  rw [rd0_b5, Qaj (Nat.le_refl _)]
  simp only [cond_false]
  rw [Qak (x := 3 - p) (by omega) (by omega), decide_eq_true (show 3 - p <= 18 by omega), Qak (x := (l.length : Int) * pw (3 - p)) (by omega) (by omega)]
  have hn : nrPre c ((l.length : Int) * pw (3 - p)) = true := Qcs.2 ⟨⟨by omega, by omega⟩, by omega, by omega⟩
  rw [hn]; rfl
 ·rw [rd0_b5, Qai hi, Qal hi, Qan (by omega), Qag hd]
  cases hx : decOk x
  ·rfl
  ·have hb := Qh9 hx
   simp only [hx, in03, Bool.and_self, cond_true, cond_false]
   rw [Qak (by omega) (by omega)]
theorem s_b5 : C_b5 (fun x => decide (List.length x.1 <= 4294967296)) (fun x => (decMean x.1 x.2.1, ())) := S_b5 s_a3 s_ab s_ad s_a5 s_ac fun x hx => ⟨List.length x.1 + 1, (ev_b5 _ x.1 x.2.1).trans (by
 have key : ∀ (l : List MDec) (p : Int) (X : Option (MDec × Unit)), (inq l.length 1 100 = true -> inq p 0 3 = true -> X = some (decMean l p, ())) -> (bif (decide ((l.length : Int) = (0 : Int))) then (some (((0 : Int), (0 : Int)), ())) else (bif (decide ((100 : Int) < (l.length : Int))) then (some (((0 : Int), (0 : Int)), ())) else (bif (bif inq p 0 3 then false else true) then (some (((0 : Int), (0 : Int)), ())) else X))) = some (decMean l p, ()) := fun l p X hX => by
  by_cases h0 : (l.length : Int) = 0
  ·have : inq l.length 1 100 = false := by unfold inq; rw [decide_eq_false (by omega)]; rfl
   rw [decide_eq_true h0]; unfold decMean; rw [this]; rfl
  ·by_cases h1 : (100 : Int) < (l.length : Int)
   ·have : inq l.length 1 100 = false := by unfold inq; rw [decide_eq_false (show ¬ (l.length : Int) <= 100 by omega), Bool.and_false]
    rw [decide_eq_false h0, decide_eq_true h1]; unfold decMean; rw [this]; rfl
   ·have hl : inq l.length 1 100 = true := Qar.2 ⟨by omega, by omega⟩
    rw [decide_eq_false h0, decide_eq_false h1]
    cases hp : inq p 0 3
    ·unfold decMean; rw [hp, Bool.and_false, Bool.and_false]; rfl
    ·exact hX hl hp
 exact key x.1 x.2.1 _ fun hl hp => p_b5 x.1 x.2.1 hl hp)⟩
end Go.Proofs.YtddpemilmeijfaaGreat

set_option linter.unusedVariables false
set_option linter.unusedSimpArgs false
namespace Go.Proofs.YtddpemilmeijfaaGreat
open Go.Vm
theorem rdLmore {l : List MDec} (h : l ≠ []) : rdL (e := S_DecDec) l (0 : Int) = l.getD 0 (0, 0) := rfl
theorem Qt7 {l : List MDec} (h : l ≠ []) (ho : l.all decOk = true) : decOk (l.getD 0 (0, 0)) = true := by
 cases l with
 | nil => exact absurd rfl h
 | cons d r => exact List.all_eq_true.1 ho d List.mem_cons_self
theorem Qe0 {t : MTst} : tlPre t = true ↔ tsPre t = true /\ (t.2.2.2.1 = 1 -> t.2.2.2.2 ≠ []) := by
 unfold tlPre
 simp only [Bool.and_eq_true, Bool.or_eq_true, Bool.not_eq_true', decide_eq_false_iff_not, List.isEmpty_eq_false_iff]
 exact ⟨fun h => ⟨h.1, fun e => h.2.resolve_left (fun hn => hn e)⟩, fun h => ⟨h.1, Classical.or_iff_not_imp_left.2 fun hn => h.2 (Classical.not_not.1 hn)⟩⟩
theorem Quq {l : List MDec} (h : l ≠ []) : (bif (decide ((0 : Int) <= (0 : Int))) then (decide ((0 : Int) < (l.length : Int))) else false) = true := by
 have : 0 < l.length := List.length_pos_iff.2 h
 exact Qai (i := 0) this
theorem p_tell {t : MTst} (h : tlPre t = true) (A B C : Option (MDec × Unit)) (hA : t.2.2.2.2 ≠ [] -> A = some (decAt (t.2.2.2.2.getD 0 (0, 0)) t.1.2.2.2, ())) (hB : B = some (decMean (t.2.2.1 :: t.2.2.2.2) t.1.2.2.2, ())) (hC : C = some (decAt t.2.2.1 t.1.2.2.2, ())) :
  (bif (decide (t.2.2.2.1 = (1 : Int))) then (bif (bif (decide ((0 : Int) <= (0 : Int))) then (decide ((0 : Int) < (t.2.2.2.2.length : Int))) else false) then A else none) else (bif (decide (t.2.2.2.1 = (2 : Int))) then (bif (fitL [t.2.2.1] t.2.2.2.2) then B else none) else C)) = some (tell t, ()) := by
 obtain ⟨h1, h2⟩ := Qe0.1 h
 obtain ⟨_, _, _, h3⟩ := Qcn.1 h1
 unfold tell
 by_cases c1 : t.2.2.2.1 = 1
 ·rw [decide_eq_true c1, if_pos c1, Quq (h2 c1), hA (h2 c1)]; rfl
 ·rw [decide_eq_false c1, if_neg c1]
  by_cases c2 : t.2.2.2.1 = 2
  ·rw [decide_eq_true c2, if_pos c2, Qaz (by simp; omega), hB]; rfl
  ·rw [decide_eq_false c2, if_neg c2, hC]; rfl
theorem s_ci : C_ci (fun x => tlPre x.1) (fun x => (tell x.1, ())) := S_ci s_c6 s_ch fun x hx => ⟨0, (ev_ci 0 x.1).trans (by
 have hx : tlPre x.1 = true := hx
 obtain ⟨_, _, _, h3⟩ := Qcn.1 (Qe0.1 hx).1
 refine p_tell hx _ _ _ (fun _ => rfl) ?_ rfl
 have : decide (List.length (List.append [x.1.2.2.1] x.1.2.2.2.2) <= 4294967296) = true := decide_eq_true (by
  show (x.1.2.2.1 :: x.1.2.2.2.2).length <= _
  rw [List.length_cons]; exact Nat.le_trans (Nat.succ_le_succ h3) (by decide))
 rw [this]; rfl)⟩
theorem s_b6 : C_b6 (fun x => tlPre x.1) (fun x => (tell x.1, ())) := S_b6 s_ad s_b5 fun x hx => ⟨0, (ev_b6 0 x.1).trans (by
 have hx : tlPre x.1 = true := hx
 obtain ⟨g1, g2, g3, h3⟩ := Qcn.1 (Qe0.1 hx).1
 have hp := Qjw g1
 have hat : ∀ d, decOk d = true -> decAt d x.1.1.2.2.2 = atR d x.1.1.2.2.2 := fun d hd => by unfold decAt; rw [hd, hp]; rfl
 refine p_tell hx _ _ _ (fun hne => ?_) ?_ ?_
 ·have ho := Qt7 hne g3
  have e : (decOk (rdL (e := S_DecDec) x.1.2.2.2.2 (0 : Int)) && inq x.1.1.2.2.2 0 3) = true := by rw [rdLmore hne, ho, hp]; rfl
  rw [hat _ ho]
  simp only [e, cond_true]; rfl
 ·have : decide (List.length (List.append [x.1.2.2.1] x.1.2.2.2.2) <= 4294967296) = true := decide_eq_true (by
   show (x.1.2.2.1 :: x.1.2.2.2.2).length <= _
   rw [List.length_cons]; exact Nat.le_trans (Nat.succ_le_succ h3) (by decide))
  rw [this]; rfl
 ·rw [hat _ g2]
  simp only [g2, hp, Bool.and_self, cond_true])⟩
theorem s_cj : C_cj (fun _ => true) (fun x => (!spcIn x.2.1.1 x.1, ())) := S_cj s_cg fun x _ => ⟨0, (ev_cj 0 x.1 x.2.1).trans (by simp only [Qdx])⟩
theorem s_ck : C_ck (fun x => decide (List.length x.1 <= 4294967296)) (fun x => (idxOf (fun d => !spcIn x.2.1.1.1 d) x.1 0, ())) := S_ck s_cj fun x hx => ⟨List.length x.1 + 1, (ev_ck _ x.1 x.2.1).trans (by
 have hx : List.length x.1 <= 4294967296 := of_decide_eq_true hx
 refine Qc6 (α := MDec) x.1 (fun d => !spcIn x.2.1.1.1 d) (fun k i => r_ck (fun x => (!spcIn x.2.1.1 x.1, ())) (x.1, x.2.1, ()) k pt1 (h0_ck x.1 x.2.1 (List.length x.1 : Int) (i : Int))) (fun k => ?_) (fun k i y r hd hi => ?_)
 ·rw [rd0_ck, Qaj (Nat.le_refl _)]; rfl
 ·rw [rd0_ck, Qai hi, Qal hi, Qan (by omega), Qag hd]; rfl)⟩
theorem s_cl : C_cl (fun x => decide (List.length x.1 <= 4294967296)) (fun x => (List.any x.1 (fun d => !spcIn x.2.1.1.1 d), ())) := S_cl s_ck fun x hx => ⟨0, (ev_cl 0 x.1 x.2.1).trans (by
 have hx : decide (List.length x.1 <= 4294967296) = true := hx
 simp only [hx, cond_true, Qc7])⟩
theorem tl_of {t : MTst} (h : tsPre t = true) (hn : ¬ (t.2.2.2.2.length : Int) < need t.2.2.2.1) : tlPre t = true := by
 refine Qe0.2 ⟨h, fun e hne => ?_⟩
 rw [hne, e] at hn
 exact hn (by decide)
theorem p_state {t : MTst} (A : Option (Int × Unit)) (h3 : t.2.2.2.1 ≠ 3) (hA : ¬ (t.2.2.2.2.length : Int) < need t.2.2.2.1 -> A = some (if passes t = true then 3 else 4, ())) (h0 : t.2.2.2.1 ≠ 0) :
  (bif (decide ((t.2.2.2.2.length : Int) < need t.2.2.2.1)) then (some ((2 : Int), ())) else A) = some (stateOf t, ()) := by
 unfold stateOf
 rw [if_neg h0, if_neg h3]
 by_cases hn : (t.2.2.2.2.length : Int) < need t.2.2.2.1
 ·rw [decide_eq_true hn, if_pos hn]; rfl
 ·rw [decide_eq_false hn, if_neg hn, hA hn]; rfl
theorem s_cm : C_cm (fun x => tsPre x.1) (fun x => (stateOf x.1, ())) := S_cm s_cg s_cf s_ci s_cl fun x hx => ⟨0, (ev_cm 0 x.1).trans (by
 have key : ∀ t : MTst, tsPre t = true -> t.2.2.2.1 ≠ 0 -> (bif (decide ((t.2.2.2.2.length : Int) < need t.2.2.2.1)) then (some ((2 : Int), ())) else (bif (bif (decide (t.2.2.2.1 = (3 : Int))) then false else true) then (bif tlPre t then (bif spcIn t.1 (tell t) then (bif decide (t.2.2.2.2.length <= 4294967296) then (bif (bif (t.2.2.2.2.any fun d => !spcIn t.1 d) then false else true) then (some ((3 : Int), ())) else (some ((4 : Int), ()))) else none) else (some ((4 : Int), ()))) else none) else (some ((4 : Int), ())))) = some (stateOf t, ()) := fun t ht h0 => by
  obtain ⟨_, _, _, h3⟩ := Qcn.1 ht
  by_cases c3 : t.2.2.2.1 = 3
  ·have hn : ¬ (t.2.2.2.2.length : Int) < need t.2.2.2.1 := by rw [c3]; unfold need; simp
   unfold stateOf
   rw [if_neg h0, if_pos c3, decide_eq_false hn, decide_eq_true c3]; rfl
  ·refine p_state _ c3 (fun hn => ?_) h0
   rw [decide_eq_false c3, tl_of ht hn, decide_eq_true (show t.2.2.2.2.length <= 4294967296 by omega)]
   simp only [Qdx, Qdl, cond_true]
   unfold passes
   cases spcIn t.1 (tell t) <;> cases t.2.2.2.2.all (spcIn t.1) <;> rfl
 have hx : tsPre x.1 = true := hx
 by_cases h0 : x.1.2.2.2.1 = 0
 ·unfold stateOf
  rw [if_pos h0]
  simp only [decide_eq_true h0]
  cases spcIn x.1.1 x.1.2.2.1 <;> rfl
 ·have := key x.1 hx h0
  simp only [decide_eq_false h0, cond_false]
  exact this)⟩
theorem s_b7 : C_b7 (fun x => tlPre x.1) (fun x => (passes x.1, ())) := S_b7 s_b4 s_b6 fun x hx => ⟨List.length x.1.2.2.2.2 + 1, (ev_b7 _ x.1).trans (by
 have hx : tlPre x.1 = true := hx
 obtain ⟨_, _, _, h3⟩ := Qcn.1 (Qe0.1 hx).1
 have h3 : List.length x.1.2.2.2.2 <= 2 := h3
 refine Qne (α := MDec) x.1.2.2.2.2 (spcIn x.1.1) (spcIn x.1.1 (tell x.1)) (fun k i => r_b7 (fun x => (spcIn x.1 x.2.1, ())) (fun x => (tell x.1, ())) (fun x => tlPre x.1) (x.1, ()) k pt1 (h0_b7 x.1 (i : Int))) (fun k => ?_) (fun k i y r hd hi => ?_)
 ·rw [rd0_b7, Qaj (Nat.le_refl _)]
  simp only [hx, cond_true, cond_false]
 ·rw [rd0_b7, Qai hi, Qal hi, Qan (by omega), Qag hd]
  simp only [cond_true, Qdx, Qo0])⟩
theorem s_b8 : C_b8 (fun x => tsPre x.1) (fun x => (stateOf x.1, ())) := S_b8 s_b4 s_b3 s_b7 fun x hx => ⟨0, (ev_b8 0 x.1).trans (by
 have hx : tsPre x.1 = true := hx
 by_cases h0 : x.1.2.2.2.1 = 0
 ·unfold stateOf
  rw [if_pos h0]
  simp only [decide_eq_true h0]
  cases spcIn x.1.1 x.1.2.2.1 <;> rfl
 ·simp only [decide_eq_false h0, cond_false]
  by_cases c3 : x.1.2.2.2.1 = 3
  ·unfold stateOf
   rw [if_neg h0, if_pos c3, decide_eq_true c3]; rfl
  ·simp only [decide_eq_false c3, cond_false]
   refine p_state (t := x.1) _ c3 (fun hn => ?_) h0
   simp only [tl_of hx hn, cond_true]
   cases passes x.1 <;> rfl)⟩
theorem p_okB (t : MTst) (A : Option (Bool × Unit)) (hA : t.2.1 ≠ 0 -> A = some (decide (t.2.1 = stateOf t) && (decide (t.2.2.2.1 = 0) || !spcIn t.1 t.2.2.1), ())) :
  (bif (decide (t.2.1 = (0 : Int))) then (bif (Sh.beq S_DecDec t.2.2.1 ((0 : Int), (0 : Int))) then (some ((decide (t.2.2.2.1 = (0 : Int))), ())) else (some (false, ()))) else A) = some (tstOkB t, ()) := by
 rw [Qis]
 unfold tstOkB
 by_cases h : t.2.1 = 0
 ·rw [decide_eq_true h]
  cases same t.2.2.1 ((0 : Int), (0 : Int)) <;> rfl
 ·rw [decide_eq_false h, hA h]; rfl
theorem p_okB2 (t : MTst) : (bif (decide (t.2.1 = stateOf t)) then (bif (decide (t.2.2.2.1 = (0 : Int))) then (some (true, ())) else (some ((bif spcIn t.1 t.2.2.1 then false else true), ()))) else (some (false, ()))) = some (decide (t.2.1 = stateOf t) && (decide (t.2.2.2.1 = 0) || !spcIn t.1 t.2.2.1), ()) := by
 cases decide (t.2.1 = stateOf t) <;> cases decide (t.2.2.2.1 = 0) <;> cases spcIn t.1 t.2.2.1 <;> rfl
theorem s_cn : C_cn (fun x => decide (List.length x.1.2.2.2.2 <= 4294967296)) (fun x => (tstOk x.1, ())) := S_cn s_ca s_c4 s_ce s_iin s_cf s_cm s_cg fun x hx => ⟨0, (ev_cn 0 x.1).trans (by
 have hx : decide (List.length x.1.2.2.2.2 <= 4294967296) = true := hx
 simp only [hx, cond_true]
 unfold tstOk
 cases hA : tstOkA x.1
 ·have hA' := hA
  unfold tstOkA at hA'
  cases h1 : askOk x.1.1
  ·rfl
  ·cases h2 : decOk x.1.2.2.1
   ·rfl
   ·cases h3 : List.all x.1.2.2.2.2 decOk
    ·rfl
    ·cases h4 : inq x.1.2.2.2.1 0 3
     ·rfl
     ·rw [h1, h2, h3, h4] at hA'
      have h5 : need x.1.2.2.2.1 < (List.length x.1.2.2.2.2 : Int) := Int.not_le.1 (of_decide_eq_false hA')
      simp only [cond_false, decide_eq_true h5]; rfl
 ·have hp := Qha hA
  unfold tstOkA at hA
  simp only [Bool.and_eq_true, decide_eq_true_eq] at hA
  obtain ⟨h1, h2, h3, h4, h5⟩ := hA
  simp only [h1, h2, h3, h4, decide_eq_false (Int.not_lt.2 h5), cond_true, cond_false, Bool.true_and]
  refine p_okB x.1 _ fun hs => ?_
  simp only [hp, cond_true]
  exact p_okB2 x.1)⟩
theorem s_b9 : C_b9 (fun _ => true) (fun x => (tstOk x.1, ())) := S_b9 s_au s_ab s_a3 s_b3 s_b8 s_b4 fun x _ => ⟨List.length x.1.2.2.2.2 + 1, (ev_b9 _ x.1).trans (by
 have key : ∀ t : MTst, (bif (bif askOk t.1 then false else true) then (some (false, ())) else (bif (bif decOk t.2.2.1 then false else true) then (some (false, ())) else (bif (bif inq t.2.2.2.1 0 3 then false else true) then (some (false, ())) else (bif (decide (need t.2.2.2.1 < (t.2.2.2.2.length : Int))) then (some (false, ())) else
   (r_b9 (fun x => (askOk x.1, ())) (fun x => (decOk x.1, ())) (fun x => (inq x.1 x.2.1 x.2.2.1, ())) (fun x => (need x.1, ())) (fun x => (stateOf x.1, ())) (fun x => tsPre x.1) (fun x => (spcIn x.1 x.2.1, ())) (t, ()) (t.2.2.2.2.length + 1) pt0 (h0_b9 t ((0 : Nat) : Int))))))) = some (tstOk t, ()) := fun t => by
  unfold tstOk
  have hloop : askOk t.1 = true -> decOk t.2.2.1 = true -> inq t.2.2.2.1 0 3 = true -> (t.2.2.2.2.length : Int) <= need t.2.2.2.1 -> r_b9 (fun x => (askOk x.1, ())) (fun x => (decOk x.1, ())) (fun x => (inq x.1 x.2.1 x.2.2.1, ())) (fun x => (need x.1, ())) (fun x => (stateOf x.1, ())) (fun x => tsPre x.1) (fun x => (spcIn x.1 x.2.1, ())) (t, ()) (t.2.2.2.2.length + 1) pt0 (h0_b9 t ((0 : Nat) : Int)) = some (t.2.2.2.2.all decOk && tstOkB t, ()) := fun h1 h2 h4 h5 => by
   have h6 := Qo1 t.2.2.2.1
   by_cases h3 : t.2.2.2.2.all decOk = true
   ·have hp : tsPre t = true := Qcn.2 ⟨h1, h2, h3, by omega⟩
    refine Qne (α := MDec) t.2.2.2.2 decOk (tstOkB t) (fun k i => r_b9 (fun x => (askOk x.1, ())) (fun x => (decOk x.1, ())) (fun x => (inq x.1 x.2.1 x.2.2.1, ())) (fun x => (need x.1, ())) (fun x => (stateOf x.1, ())) (fun x => tsPre x.1) (fun x => (spcIn x.1 x.2.1, ())) (t, ()) k pt0 (h0_b9 t (i : Int))) (fun k => ?_) (fun k i y r hd hi => ?_)
    ·rw [rd0_b9, Qaj (Nat.le_refl _)]
     refine p_okB t _ fun hs => ?_
     simp only [hp, cond_true]
     exact p_okB2 t
    ·rw [rd0_b9, Qai hi, Qal hi, Qan (by omega), Qag hd]
     simp only [cond_true, Qdx, Qo0]
   ·have h3 : t.2.2.2.2.all decOk = false := Bool.eq_false_iff.2 h3
    have := Qa9 (σ := Unit) t.2.2.2.2 (fun k i _ => r_b9 (fun x => (askOk x.1, ())) (fun x => (decOk x.1, ())) (fun x => (inq x.1 x.2.1 x.2.2.1, ())) (fun x => (need x.1, ())) (fun x => (stateOf x.1, ())) (fun x => tsPre x.1) (fun x => (spcIn x.1 x.2.1, ())) (t, ()) k pt0 (h0_b9 t (i : Int))) (fun l i _ => (false, ())) (fun i _ => (t.2.2.2.2.drop i).all decOk = false) (fun k s hs => by
     rw [List.drop_length] at hs; cases hs) (fun k i y r s hd hi hs => by
     cases hy : decOk y
     ·refine .inl ?_
      show r_b9 _ _ _ _ _ _ _ _ _ _ _ = _
      rw [rd0_b9, Qai hi, Qal hi, Qan (by omega), Qag hd]
      simp only [hy]; rfl
     ·refine .inr ⟨(), ?_, ?_, rfl⟩
      ·rw [hd, List.all_cons, hy] at hs
       rw [Qrh hd]; exact hs
      ·show r_b9 _ _ _ _ _ _ _ _ _ _ _ = _
       rw [rd0_b9, Qai hi, Qal hi, Qan (by omega), Qag hd]
       simp only [hy]; rfl) t.2.2.2.2.length 0 () (by omega) (by simpa using h3)
    rw [h3]
    exact this
  unfold tstOkA
  cases h1 : askOk t.1
  ·rfl
  ·cases h2 : decOk t.2.2.1
   ·rfl
   ·cases h4 : inq t.2.2.2.1 0 3
    ·simp only [Bool.false_and, Bool.and_false]; rfl
    ·by_cases h5 : (t.2.2.2.2.length : Int) <= need t.2.2.2.1
     ·rw [decide_eq_true h5, decide_eq_false (by omega)]
      refine (hloop h1 h2 h4 h5).trans ?_
      simp only [Bool.true_and, Bool.and_true]
     ·rw [decide_eq_false h5, decide_eq_true (by omega)]
      simp only [Bool.and_false, Bool.false_and]; rfl
 exact key x.1)⟩
end Go.Proofs.YtddpemilmeijfaaGreat

set_option linter.unusedVariables false
set_option linter.unusedSimpArgs false
namespace Go.Proofs.YtddpemilmeijfaaGreat
open Go.Vm
theorem s_co : C_co (fun _ => true) (fun x => (inq x.1 1 5, ())) := S_co s_iin fun x _ => ⟨0, ev_co 0 x.1⟩
end Go.Proofs.YtddpemilmeijfaaGreat

set_option linter.unusedVariables false
set_option linter.unusedSimpArgs false
namespace Go.Proofs.YtddpemilmeijfaaGreat
open Go.Vm
theorem Qe1 : ∃ fn : In_a1 -> Out_a1, ∀ x, (fun x : In_a1 => rdB 1 x.1) x = true -> (∃ k, E_a1 k x = some (fn x)) /\ (fun (x : In_a1) (v : Out_a1) => Step 1 x.1 v.2.1 /\ PickQ x.2 v.1) x (fn x) := by
 refine Qax (fun k x => E_a1 k x) (fun x : In_a1 => rdB 1 x.1) (fun (x : In_a1) (v : Out_a1) => Step 1 x.1 v.2.1 /\ PickQ x.2 v.1) ((0 : Int), (([], 0), ())) fun x hx => ⟨0, ?_⟩
 have key : ∀ (b : List Int) (p n : Int), rdB 1 (b, p) = true -> Gets (E_a1 0 ((b, p), n, ())) (fun v => Step 1 (b, p) v.2.1 /\ PickQ (n, ()) v.1) := by
  intro b p n hx
  obtain ⟨⟨hl, hb⟩, h0, h1⟩ := Qas.1 hx
  have hl : b.length <= 2000 := hl
  have hb : ∀ y ∈ b, 0 <= y /\ y <= 255 := hb
  have h0 : 0 <= p := h0
  have h1 : p + 1 <= 1000000 := h1
  rw [ev_a1 0 (b, p) n]
  have e1 : w64 (p + 1) = p + 1 := Qak (by omega) (by omega)
  have e2 : w64 (p + 1 - 1) = p := by rw [Qak (by omega) (by omega)]; omega
  have e3 : w64 (p * 7) = p * 7 := Qak (by omega) (by omega)
  have e4 : w64 (p * 7 + 3) = p * 7 + 3 := Qak (by omega) (by omega)
  have hb' := Qs1 hb
  simp only [e1, e2, e3, e4]
  have go : ∀ i : Int, 0 <= i -> (1 <= n -> i < n) -> Step 1 (b, p) (b, p + 1) /\ PickQ (n, ()) i := fun i hi hi2 =>
   ⟨⟨rfl, (by show p <= p + 1; omega), (by show p + 1 <= p + ((1 : Nat) : Int); omega)⟩, hi, hi2⟩
  refine Qae (fun hc => Qac (go _ (Int.le_refl _) fun h => Int.lt_of_lt_of_le Int.zero_lt_one h)) fun hc => Qae (fun hc2 => Qac (go _ (Int.le_refl _) fun h => Int.lt_of_lt_of_le Int.zero_lt_one h)) fun hc2 => ?_
  have hn : 1 <= n := Int.not_lt.1 (of_decide_eq_false hc)
  have hL : b.length ≠ 0 := by have := of_decide_eq_false hc2; omega
  have n0 : (bif decide (n = (0 : Int)) then false else true) = true := by rw [decide_eq_false (by omega)]; rfl
  refine Qae (fun hc3 => ?_) fun hc3 => ?_
  ·have hlt := of_decide_eq_true hc3
   refine Qab (by rw [decide_eq_true h0]; exact hc3) (Qab n0 (Qac (go _ ?_ fun _ => ?_)))
   ·exact Qs2 n (hb' p)
   ·exact Int.tmod_lt_of_pos _ (by omega)
  ·have hlen : ((b.length : Nat) : Int) ≠ 0 := by omega
   have hL0 : (bif decide ((b.length : Int) = (0 : Int)) then false else true) = true := by rw [decide_eq_false hlen]; rfl
   have tm : ∀ z : Int, 0 <= z -> (bif decide ((0 : Int) <= Int.tmod z (b.length : Int)) then decide (Int.tmod z (b.length : Int) < (b.length : Int)) else false) = true := fun z hz => by
    rw [decide_eq_true (Int.tmod_nonneg _ hz)]; exact decide_eq_true (Int.tmod_lt_of_pos _ (by omega))
   refine Qab hL0 (Qab (tm p h0) (Qab hL0 (Qab (tm _ (by omega)) (Qab hL0 (Qab rfl (Qab n0 (Qac (go _ ?_ fun _ => Int.tmod_lt_of_pos _ (by omega)))))))))
   exact Qpy n h0 (by omega) (hb' _) (hb' _) ⟨Int.tdiv_nonneg h0 (by omega), by rw [Int.tdiv_eq_ediv_of_nonneg h0]; exact Int.ediv_le_self _ h0⟩
 exact key x.1.1 x.1.2 x.2.1 hx
noncomputable def Qaa := Classical.choose Qe1
theorem Qaf (r : MRd) (a : Int × Unit) (h : RdOk 1 r) : Step 1 r (Qaa (r, a)).2.1 /\ PickQ a (Qaa (r, a)).1 := (Classical.choose_spec Qe1 (r, a) (Qas.2 h)).2
theorem s_a1 : C_a1 (fun x => rdB 1 x.1) Qaa := S_a1 fun x hx => (Classical.choose_spec Qe1 x hx).1
theorem Qik : ∃ fn : In_a6 -> Out_a6, ∀ x, (fun x : In_a6 => rdB 7 x.1) x = true -> (∃ k, E_a6 Qaa (fun x => rdB 1 x.1) (fun x => (pw x.1, ())) (fun x => decide (x.1 <= 18)) k x = some (fn x)) /\ (fun (x : In_a6) (v : Out_a6) => Step 7 x.1 v.2.1 /\ True) x (fn x) := by
 refine Qax (fun k x => E_a6 Qaa (fun x => rdB 1 x.1) (fun x => (pw x.1, ())) (fun x => decide (x.1 <= 18)) k x) (fun x : In_a6 => rdB 7 x.1) (fun (x : In_a6) (v : Out_a6) => Step 7 x.1 v.2.1 /\ True) ((0, 0), (([], 0), ())) fun x hx => ?_
 have key : ∀ (r0 : MRd) (a1 : Int), RdOk 7 r0 -> Gets (E_a6 Qaa (fun x => rdB 1 x.1) (fun x => (pw x.1, ())) (fun x => decide (x.1 <= 18)) 0 (r0, a1, ())) (fun v => Step 7 r0 v.2.1 /\ True) := by
  intro r0 a1 h0
  have hs := Step.refl r0
  rw [ev_a6 0 r0 a1]
  repeat' first
   | refine Qam (Q := PickQ) Qaf h0 rfl (by assumption) (by decide) fun y r' hq hs => ?_
   | refine Qah (Qdy (by assumption) (by decide) (by decide)) ?_
   | refine Qab (Qdy (by assumption) (by decide) (by decide)) ?_
   | refine Qab (Qc4 (by assumption) (by decide) (by exact Int.le_refl _)) ?_
   | exact Qac ⟨Step.mono (by assumption) (by decide), trivial⟩
   | refine Qae (fun hc => ?_) fun hc => ?_
 exact ⟨0, key x.1 x.2.1 (Qas.1 hx)⟩
noncomputable def Qbh := Classical.choose Qik
theorem Qr5 (x : In_a6) (hx : (fun x : In_a6 => rdB 7 x.1) x = true) : (fun (x : In_a6) (v : Out_a6) => Step 7 x.1 v.2.1 /\ True) x (Qbh x) := (Classical.choose_spec Qik x hx).2
theorem s_a6 : C_a6 (fun x => rdB 7 x.1) Qbh := S_a6 s_a1 s_a5 fun x hx => (Classical.choose_spec Qik x hx).1
theorem Qga (r : MRd) (a : Int × Unit) (h : RdOk 7 r) : Step 7 r (Qbh (r, a)).2.1 /\ (True) := Qr5 (r, a) (Qas.2 h)
theorem Qil : ∃ fn : In_a7 -> Out_a7, ∀ x, (fun x : In_a7 => rdB 14 x.1) x = true -> (∃ k, E_a7 Qaa (fun x => rdB 1 x.1) Qbh (fun x => rdB 7 x.1) k x = some (fn x)) /\ (fun (x : In_a7) (v : Out_a7) => Step 14 x.1 v.2.1 /\ True) x (fn x) := by
 refine Qax (fun k x => E_a7 Qaa (fun x => rdB 1 x.1) Qbh (fun x => rdB 7 x.1) k x) (fun x : In_a7 => rdB 14 x.1) (fun (x : In_a7) (v : Out_a7) => Step 14 x.1 v.2.1 /\ True) ((0, (0, 0), (0, 0), 0), (([], 0), ())) fun x hx => ?_
 have key : ∀ (r0 : MRd) (a1 : Int) (a2 : Int), RdOk 14 r0 -> Gets (E_a7 Qaa (fun x => rdB 1 x.1) Qbh (fun x => rdB 7 x.1) 0 (r0, a1, a2, ())) (fun v => Step 14 r0 v.2.1 /\ True) := by
  intro r0 a1 a2 h0
  have hs := Step.refl r0
  rw [ev_a7 0 r0 a1 a2]
  repeat' first
   | refine Qam (Q := PickQ) Qaf h0 rfl (by assumption) (by decide) fun y r' hq hs => ?_
   | refine Qam (Q := fun a y => True) Qga h0 rfl (by assumption) (by decide) fun y r' hq hs => ?_
   | refine Qah (Qdy (by assumption) (by decide) (by decide)) ?_
   | refine Qab (Qdy (by assumption) (by decide) (by decide)) ?_
   | refine Qab (Qc4 (by assumption) (by decide) (by exact Int.le_refl _)) ?_
   | exact Qac ⟨Step.mono (by assumption) (by decide), trivial⟩
   | refine Qae (fun hc => ?_) fun hc => ?_
 exact ⟨0, key x.1 x.2.1 x.2.2.1 (Qas.1 hx)⟩
noncomputable def Qbi := Classical.choose Qil
theorem Qr6 (x : In_a7) (hx : (fun x : In_a7 => rdB 14 x.1) x = true) : (fun (x : In_a7) (v : Out_a7) => Step 14 x.1 v.2.1 /\ True) x (Qbi x) := (Classical.choose_spec Qil x hx).2
theorem s_a7 : C_a7 (fun x => rdB 14 x.1) Qbi := S_a7 s_a1 s_a6 fun x hx => (Classical.choose_spec Qil x hx).1
theorem Qgb (r : MRd) (a : Int × Int × Unit) (h : RdOk 14 r) : Step 14 r (Qbi (r, a)).2.1 /\ (True) := Qr6 (r, a) (Qas.2 h)
theorem Qhi : ∃ fn : In_a0 -> Out_a0, ∀ x, (fun x : In_a0 => bytesB x.1) x = true -> (∃ k, E_a0 k x = some (fn x)) /\ (fun (x : In_a0) (v : Out_a0) => RdOk 1000000 v.1) x (fn x) := by
 refine Qax (fun k x => E_a0 k x) (fun x : In_a0 => bytesB x.1) (fun (x : In_a0) (v : Out_a0) => RdOk 1000000 v.1) (([], 0), ()) fun x hx => ?_
 have key : ∀ xs : List Int, bytesB xs = true -> Gets (E_a0 0 (xs, ())) (fun v => RdOk 1000000 v.1) := by
  intro xs h
  rw [ev_a0 0 xs]
  refine Qae (fun hc => Qab ?_ (Qac (Qtz h))) fun hc => Qac (Qs5 h hc)
  have : (2000 : Int) < (xs.length : Int) := of_decide_eq_true hc
  show decide ((2000 : Int) <= (xs.length : Int)) = true
  exact decide_eq_true (by omega)
 exact ⟨0, key x.1 hx⟩
noncomputable def Qd8 := Classical.choose Qhi
theorem Qqe (x : In_a0) (hx : (fun x : In_a0 => bytesB x.1) x = true) : (fun (x : In_a0) (v : Out_a0) => RdOk 1000000 v.1) x (Qd8 x) := (Classical.choose_spec Qhi x hx).2
theorem s_a0 : C_a0 (fun x => bytesB x.1) Qd8 := S_a0  fun x hx => (Classical.choose_spec Qhi x hx).1
theorem Qgl : ∃ fn : In_a8 -> Out_a8, ∀ x, (fun x : In_a8 => rdB 76 x.1) x = true -> (∃ k, E_a8 Qaa (fun x => rdB 1 x.1) Qbi (fun x => rdB 14 x.1) k x = some (fn x)) /\ (fun (x : In_a8) (v : Out_a8) => Step 76 x.1 v.2.1 /\ (1 <= List.length v.1 /\ List.length v.1 <= 5)) x (fn x) := by
 refine Qax (fun k x => E_a8 Qaa (fun x => rdB 1 x.1) Qbi (fun x => rdB 14 x.1) k x) (fun x : In_a8 => rdB 76 x.1) (fun (x : In_a8) (v : Out_a8) => Step 76 x.1 v.2.1 /\ (1 <= List.length v.1 /\ List.length v.1 <= 5)) ([], (([], 0), ())) fun x hx => ?_
 have key : ∀ (r0 : MRd) (n : Int), RdOk 76 r0 -> Gets (E_a8 Qaa (fun x => rdB 1 x.1) Qbi (fun x => rdB 14 x.1) 5 (r0, n, ())) (fun v => Step 76 r0 v.2.1 /\ (1 <= List.length v.1 /\ List.length v.1 <= 5)) := by
  intro r0 n h0
  rw [ev_a8 5 r0 n]
  refine Qc8 (σ := MRd × List MAsk) (fun k i s => r_a8 Qaa (fun x => rdB 1 x.1) Qbi (fun x => rdB 14 x.1) (r0, n, ()) k pt0 (h0_a8 r0 n ((i + 1 : Nat) : Int) s.1 s.2)) _ (fun i s => Step (15 * i) r0 s.1 /\ List.length s.2 <= i) 4 (fun k s hs => ?_) (fun k i s hi hs next => ?_) 4 0 (r0, []) rfl ⟨Step.refl r0, Nat.le_refl _⟩
  ·obtain ⟨r, l⟩ := s
   obtain ⟨hs, hl⟩ := hs
   have hs : Step 60 r0 r := hs
   have hl : List.length l <= 4 := hl
   show Gets (r_a8 Qaa (fun x => rdB 1 x.1) Qbi (fun x => rdB 14 x.1) (r0, n, ()) (k + 1) pt0 (h0_a8 r0 n ((4 + 1 : Nat) : Int) r l)) _
   rw [rd0_a8]
   refine Qae (fun hc => ?_) fun _ => ?_
   ·exact absurd (of_decide_eq_true hc) (by decide)
   ·refine Qae (fun hc => ?_) fun hc => ?_
    ·have hl0 : l = [] := List.eq_nil_of_length_eq_zero (by have : (List.length l : Int) = 0 := of_decide_eq_true hc; omega)
     subst hl0
     refine Qam (Q := fun a y => True) Qgb h0 rfl hs (by decide) fun y r' _ hs => Qab rfl (Qam (Q := PickQ) Qaf h0 rfl hs (by decide) fun z r' _ hs => Qae (fun hc => Qab rfl (Qab rfl (Qac ⟨hs.mono (by decide), ?_⟩))) fun hc => Qac ⟨hs.mono (by decide), ?_⟩)
     ·show (1 : Nat) <= 2 /\ 2 <= 5
      decide
     ·show (1 : Nat) <= 1 /\ 1 <= 5
      decide
    ·have hl0 : 1 <= List.length l := by have : ¬ ((List.length l : Int) = 0) := of_decide_eq_false hc; omega
     refine Qam (Q := PickQ) Qaf h0 rfl hs (by decide) fun z r' _ hs => Qae (fun hc => Qab ?_ (Qab (Qaz (by show l.length + 1 <= _; omega)) (Qac ⟨hs.mono (by decide), ?_⟩))) fun hc => Qac ⟨hs.mono (by decide), hl0, ?_⟩
     ·show decide ((0 : Int) < (List.length l : Int)) = true
      exact decide_eq_true (by omega)
     ·show 1 <= List.length (l ++ [_]) /\ List.length (l ++ [_]) <= 5
      rw [List.length_append]; exact ⟨by omega, by show l.length + 1 <= 5; omega⟩
     ·show l.length <= 5
      omega
  ·obtain ⟨r, l⟩ := s
   obtain ⟨hs, hl⟩ := hs
   have hs : Step (15 * i) r0 r := hs
   have hl : List.length l <= i := hl
   have hw : w64 (((i + 1 : Nat) : Int) + 1) = ((i + 1 + 1 : Nat) : Int) := Qan (by omega)
   show Gets (r_a8 Qaa (fun x => rdB 1 x.1) Qbi (fun x => rdB 14 x.1) (r0, n, ()) (k + 1) pt0 (h0_a8 r0 n ((i + 1 : Nat) : Int) r l)) _
   rw [rd0_a8, hw]
   refine Qae (fun _ => ?_) fun hc => absurd (show ((i + 1 : Nat) : Int) <= 4 by omega) (of_decide_eq_false hc)
   refine Qam (Q := PickQ) Qaf h0 rfl hs (by omega) fun z r' _ hs => Qae (fun hc => ?_) fun hc => ?_
   ·refine Qam (Q := fun a y => True) Qgb h0 rfl hs (by omega) fun y r' _ hs => Qab (Qaz (by show l.length + 1 <= _; omega)) ?_
    refine next (r', l ++ [y]) ⟨hs.mono (by omega), ?_⟩
    show List.length (l ++ [y]) <= i + 1
    rw [List.length_append]; show l.length + 1 <= i + 1; omega
   ·exact next (r', l) ⟨hs.mono (by omega), by show l.length <= i + 1; omega⟩
 exact ⟨5, key x.1 x.2.1 (Qas.1 hx)⟩
noncomputable def Qa6 := Classical.choose Qgl
theorem Qoh (x : In_a8) (hx : (fun x : In_a8 => rdB 76 x.1) x = true) : (fun (x : In_a8) (v : Out_a8) => Step 76 x.1 v.2.1 /\ (1 <= List.length v.1 /\ List.length v.1 <= 5)) x (Qa6 x) := (Classical.choose_spec Qgl x hx).2
theorem s_a8 : C_a8 (fun x => rdB 76 x.1) Qa6 := S_a8 s_a1 s_a7 fun x hx => (Classical.choose_spec Qgl x hx).1
theorem Qje (r : MRd) (a : Int × Unit) (h : RdOk 76 r) : Step 76 r (Qa6 (r, a)).2.1 /\ (1 <= List.length (Qa6 (r, a)).1 /\ List.length (Qa6 (r, a)).1 <= 5) := Qoh (r, a) (Qas.2 h)
end Go.Proofs.YtddpemilmeijfaaGreat

set_option linter.unusedVariables false
set_option linter.unusedSimpArgs false
namespace Go.Proofs.YtddpemilmeijfaaGreat
open Go.Vm
theorem s_d7 : C_d7 (fun _ => true) (fun x => (decide (Int.tmod x.1 4 = 0) && (!decide (Int.tmod x.1 100 = 0) || decide (Int.tmod x.1 400 = 0)), ())) := S_d7 fun x _ => ⟨0, (ev_d7 0 x.1).trans (by
 have key : ∀ y : Int, (bif (bif (decide ((4 : Int) = (0 : Int))) then false else true) then (bif (decide ((Int.tmod y (4 : Int)) = (0 : Int))) then (bif (bif (decide ((100 : Int) = (0 : Int))) then false else true) then (bif (bif (decide ((Int.tmod y (100 : Int)) = (0 : Int))) then false else true) then (some (true, ())) else (bif (bif (decide ((400 : Int) = (0 : Int))) then false else true) then (some ((decide ((Int.tmod y (400 : Int)) = (0 : Int))), ())) else none)) else none) else (some (false, ()))) else none) = some (decide (Int.tmod y 4 = 0) && (!decide (Int.tmod y 100 = 0) || decide (Int.tmod y 400 = 0)), ()) := fun y => by
  cases decide (Int.tmod y 4 = 0)
  ·rfl
  ·cases decide (Int.tmod y 100 = 0) <;> rfl
 exact key x.1)⟩
theorem s_d8 : C_d8 (fun x => decide (x.1 = 2000) && decide (x.2.1 = 2)) (fun _ => ((29 : Int), ())) := S_d8 s_iin s_d7 fun x hx => by
 have hx : (decide (x.1 = 2000) && decide (x.2.1 = 2)) = true := hx
 simp only [Bool.and_eq_true, decide_eq_true_eq] at hx
 obtain ⟨a, b, u⟩ := x
 obtain ⟨h1, h2⟩ := hx
 have h1 : a = 2000 := h1
 have h2 : b = 2 := h2
 subst h1 h2
 exact ⟨0, ev_d8 0 2000 2⟩
theorem s_d9 : C_d9 (fun x => decide (x.1.1 = 2000) && (decide (x.1.2.1 = 2) && decide (x.1.2.2 = 29))) (fun _ => (true, ())) := S_d9 s_iin s_d8 fun x hx => by
 have hx : (decide (x.1.1 = 2000) && (decide (x.1.2.1 = 2) && decide (x.1.2.2 = 29))) = true := hx
 simp only [Bool.and_eq_true, decide_eq_true_eq] at hx
 obtain ⟨⟨a, b, c⟩, u⟩ := x
 obtain ⟨h1, h2, h3⟩ := hx
 have h1 : a = 2000 := h1
 have h2 : b = 2 := h2
 have h3 : c = 29 := h3
 subst h1 h2 h3
 exact ⟨0, ev_d9 0 (2000, 2, 29)⟩
theorem s_da : C_da (fun _ => true) (fun _ => (true, ())) := S_da s_d9 fun x _ => ⟨0, ev_da 0⟩
theorem s_b0 : C_b0 (fun _ => true) (fun x => ((x.1, 0, (0, 0), 0, []), ())) := S_b0 fun x _ => ⟨0, ev_b0 0 x.1⟩
theorem Qo4 (a b : MAsk) : Sh.beq S_SpcTest a b = same a b := by
 show (decide (a.1 = b.1) && ((decide (a.2.1.1 = b.2.1.1) && decide (a.2.1.2 = b.2.1.2)) && ((decide (a.2.2.1.1 = b.2.2.1.1) && decide (a.2.2.1.2 = b.2.2.1.2)) && decide (a.2.2.2 = b.2.2.2)))) = _
 simp only [Qcw, Qa8]
theorem s_du : C_du (fun x => decide (List.length x.1 <= 4294967296)) (fun x => (same x.1 x.2.1, ())) := S_du fun x hx => ⟨List.length x.1 + 1, (ev_du _ x.1 x.2.1).trans (by
 have hx : List.length x.1 <= 4294967296 := of_decide_eq_true hx
 by_cases hl : List.length x.1 = List.length x.2.1
 ·rw [hl, decide_eq_true rfl, <- hl]
  refine Qty (α := MDec) x.1 x.2.1 hl (fun k i => r_du (x.1, x.2.1, ()) k pt0 (h0_du x.1 x.2.1 (i : Int))) (fun k => ?_) (fun k i a b r r' hd hd' hi hi' => ?_)
  ·rw [rd0_du, Qaj (Nat.le_refl _)]; rfl
  ·rw [rd0_du, Qai hi, Qai hi', Qal hi, Qan (by omega), Qag hd, Qag hd', Qis]
   cases same a b <;> rfl
 ·rw [decide_eq_false (by omega), Qcm (fun e => hl (congrArg List.length e))]; rfl)⟩
theorem s_dv : C_dv (fun x => decide (List.length x.1.2.2.2.2 <= 4294967296)) (fun x => (same x.1 x.2.1, ())) := S_dv s_du fun x hx => ⟨0, (ev_dv 0 x.1 x.2.1).trans (by
 have hx : decide (List.length x.1.2.2.2.2 <= 4294967296) = true := hx
 have key : ∀ a b : MTst, (bif same a.1 b.1 then (bif decide (a.2.1 = b.2.1) then (bif same a.2.2.1 b.2.2.1 then (bif decide (a.2.2.2.1 = b.2.2.2.1) then some (same a.2.2.2.2 b.2.2.2.2, ()) else some (false, ())) else some (false, ())) else some (false, ())) else some (false, ())) = some (same a b, ()) := by
  intro a b
  rw [<- Qa8 a.1 b.1, <- Qa8 a.2.1 b.2.1, <- Qa8 a.2.2.1 b.2.2.1, <- Qa8 a.2.2.2.1 b.2.2.2.1, Qcw, Qcw]
  cases same a.1 b.1 <;> cases same a.2.1 b.2.1 <;> cases same a.2.2.1 b.2.2.1 <;> cases same a.2.2.2.1 b.2.2.2.1 <;> rfl
 simp only [hx, cond_true]
 exact (by rw [Qo4, Qis]; exact key x.1 x.2.1))⟩
end Go.Proofs.YtddpemilmeijfaaGreat

set_option linter.unusedVariables false
set_option linter.unusedSimpArgs false
namespace Go.Proofs.YtddpemilmeijfaaGreat
open Go.Vm
theorem s_ap : C_ap (fun x => smS x.1) (fun x => (x.1, ())) := S_ap fun x hx => ⟨List.length x.1 + 1, (ev_ap _ x.1).trans (by
 obtain ⟨h1, h2⟩ := Qee.1 hx
 have h1 : List.length x.1 <= 4294967296 := h1
 refine (Qs0 (α := MSpc) x.1 (fun y => y) (fun k i out => r_ap (x.1, ()) k pt0 (h0_ap x.1 (i : Int) out)) (fun k out => ?_) (fun k i y r out hd hi ho => ?_)).trans ?_
 ·rw [rd0_ap, Qaj (Nat.le_refl _)]; rfl
 ·rw [rd0_ap, Qai hi, Qal hi, Qan (by omega), Qag hd, Qaz (by have := h2 y (Qce hd); show 0 + y.1.length <= _; omega), Qaz (by show out.length + 1 <= _; omega)]
  rfl
 ·rw [List.map_id'])⟩
theorem s_ax : C_ax (fun x => smS x.1 && smA x.2.1) (fun x => ((spcAdd x.1 x.2.1).1, (spcAdd x.1 x.2.1).2, ())) := S_ax s_ap s_aw s_av fun x hx => ⟨0, (ev_ax 0 x.1 x.2.1).trans (by
 have hx : (smS x.1 && smA x.2.1) = true := hx
 obtain ⟨hx1, hx2⟩ := (Bool.and_eq_true _ _).mp hx
 have h1 : List.length x.1 <= 4294967296 := (Qee.1 hx1).1
 have key : ∀ (l : List MSpc) (t : List MAsk), l.length <= 4294967296 -> smA t = true -> (bif (bif spcsOk l then false else true) then (some (l, (false, ()))) else (bif (bif testsOk t then false else true) then (some (l, (false, ()))) else (bif (decide ((List.length l : Int) = (6 : Int))) then (some (l, (false, ()))) else (bif (fitL [] t) then (bif (fitL l [((List.append [] t), (1 : Int))]) then (some ((List.append l [((List.append [] t), (1 : Int))]), (true, ()))) else none) else none)))) = some ((spcAdd l t).1, (spcAdd l t).2, ()) := by
  intro l t hl ht
  have ht : t.length <= 4294967296 := of_decide_eq_true ht
  unfold spcAdd
  cases hs : spcsOk l
  ·rfl
  ·have h6 : l.length <= 6 := by unfold spcsOk at hs; simp at hs; exact hs.1
   rw [Qaz (by show 0 + t.length <= _; omega), Qaz (by show l.length + 1 <= _; omega)]
   cases testsOk t
   ·rfl
   ·by_cases h : l.length = 6
    ·rw [decide_eq_true (show (List.length l : Int) = 6 by omega), decide_eq_true h]; rfl
    ·rw [decide_eq_false (show ¬ (List.length l : Int) = 6 by omega), decide_eq_false h]; rfl
 simp only [hx1, cond_true]
 exact key x.1 x.2.1 h1 hx2)⟩
theorem Qur (l : List MSpc) (k : Int) : rdL (e := S_SpcSpec) l k = l.getD k.toNat ([], 0) := rfl
theorem p_ay (l : List MSpc) (n : Int) (hl : l.length <= 4294967296) (h1 : 0 <= n) (h2 : n < l.length) : r_ay (fun x => (x.1, ())) (fun x => smS x.1) (fun x => (spcsOk x.1, ())) (fun x => (inq x.1 x.2.1 x.2.2.1, ())) (l, n, ()) (l.length + 1) pt2 (h0_ay l n ((0 : Nat) : Int) l) = some ((l.map retire).set n.toNat ((l.getD n.toNat ([], 0)).1, 2), true, ()) := by
 have hin : ∀ out : List MSpc, out.length = l.length -> (bif decide ((0 : Int) <= n) then decide (n < (List.length out : Int)) else false) = true := fun out ho => by
  rw [decide_eq_true h1]; exact decide_eq_true (by omega)
 refine (Qs6 (α := MSpc) l retire (fun out => some (out.set n.toNat ((out.getD n.toNat ([], 0)).1, 2), true, ())) (fun k i out => r_ay (fun x => (x.1, ())) (fun x => smS x.1) (fun x => (spcsOk x.1, ())) (fun x => (inq x.1 x.2.1 x.2.2.1, ())) (l, n, ()) k pt2 (h0_ay l n (i : Int) out)) (fun k out ho => ?_) (fun k i y r out hd hi ho => ?_)).trans ?_
 ·rw [rd0_ay, Qaj (by omega), hin out ho]; rfl
 ·have hi' : i < out.length := by omega
  rw [rd0_ay, Qai hi', Qal hi', Qan (by omega), Qag hd, Int.toNat_natCast]
  unfold retire
  cases h : decide (y.2 = 2)
  ·have : out.set i y = out := Qfv (by
    have := congrArg List.head? hd
    rwa [List.head?_drop] at this)
   simp only [cond_true, cond_false, this]
  ·simp only [cond_true]
 ·simp only [Qob]
theorem s_ay : C_ay (fun x => smS x.1) (fun x => ((spcRaise x.1 x.2.1).1, (spcRaise x.1 x.2.1).2, ())) := S_ay s_ap s_aw s_a3 fun x hx => ⟨List.length x.1 + 1, (ev_ay _ x.1 x.2.1).trans (by
 have hx : smS x.1 = true := hx
 have h1 : List.length x.1 <= 4294967296 := (Qee.1 hx).1
 have key : ∀ (l : List MSpc) (n : Int) (Z : Option (List MSpc × Bool × Unit)), l.length <= 4294967296 -> (0 <= n -> n < l.length -> Z = some ((l.map retire).set n.toNat ((l.getD n.toNat ([], 0)).1, 2), true, ())) -> (bif (bif spcsOk l then false else true) then (some (l, (false, ()))) else (bif (bif inq n 0 (w64 ((List.length l : Int) - (1 : Int))) then false else true) then (some (l, (false, ()))) else (bif (bif (decide ((0 : Int) <= n)) then (decide (n < (List.length l : Int))) else false) then (bif (bif (decide ((rdL (e := S_SpcSpec) l n).2 = (1 : Int))) then false else true) then (some (l, (false, ()))) else Z) else none))) = some ((spcRaise l n).1, (spcRaise l n).2, ()) := by
  intro l n Z hl hZ
  unfold spcRaise
  cases hs : spcsOk l
  ·rfl
  ·rw [Qak (by omega) (by omega), Qur]
   cases hi : inq n 0 ((l.length : Int) - 1)
   ·rfl
   ·obtain ⟨h1, h2⟩ := Qar.1 hi
    rw [decide_eq_true h1, decide_eq_true (show n < (l.length : Int) by omega), hZ h1 (by omega)]
    cases decide ((l.getD n.toNat ([], 0)).2 = 1) <;> rfl
 simp only [hx, cond_true]
 exact key x.1 x.2.1 _ h1 fun h2 h3 => p_ay x.1 x.2.1 h1 h2 h3)⟩
end Go.Proofs.YtddpemilmeijfaaGreat

set_option linter.unusedVariables false
set_option linter.unusedSimpArgs false
namespace Go.Proofs.YtddpemilmeijfaaGreat
open Go.Vm
def smT (t : MTst) : Bool := decide (t.2.2.2.2.length <= 4294967296)
theorem p_clone {α : Type} (l : List α) (hl : l.length <= 4294967296) : (bif (List.isEmpty l) then (agree (some (([] : List α), ())) (bif (fitL [] l) then (some ((List.append [] l), ())) else none)) else (bif (fitL [] l) then (some ((List.append [] l), ())) else none)) = some (l, ()) := by
 rw [Qaz (by show 0 + l.length <= _; omega)]
 cases l with
 | nil => unfold agree; exact if_pos rfl
 | cons a r => rfl
theorem p_turn {β : Type} (a b c : Bool) (A B : β) : (bif (bif a then false else true) then B else (bif (bif b then false else true) then B else (bif (bif c then false else true) then B else A))) = bif a && (b && c) then A else B := by
 cases a <;> cases b <;> cases c <;> rfl
theorem s_db : C_db (fun x => decide (List.length x.1 <= 4294967296)) (fun x => (x.1, ())) := S_db fun x hx => ⟨0, (ev_db 0 x.1).trans (p_clone (α := MDec) x.1 (of_decide_eq_true hx))⟩
theorem s_dc : C_dc (fun x => smT x.1) (fun x => (x.1, ())) := S_dc s_db fun x hx => ⟨0, (ev_dc 0 x.1).trans (cl_eq hx)⟩
theorem s_aq : C_aq (fun x => smT x.1) (fun x => (x.1, ())) := S_aq fun x hx => ⟨0, (ev_aq 0 x.1).trans (by
 rw [Qaz (by have : List.length x.1.2.2.2.2 <= 4294967296 := of_decide_eq_true hx; show 0 + List.length x.1.2.2.2.2 <= _; omega)]; rfl)⟩
theorem s_di : C_di (fun _ => true) (fun x => (((x.1.1, x.1.2.1, x.2.1, x.1.2.2.2) : MTst), ())) := S_di fun x _ => ⟨0, ev_di 0 x.1 x.2.1⟩
theorem s_dl : C_dl (fun _ => true) (fun x => (((x.1.1, x.1.2.1, x.1.2.2.1, x.2.1, x.1.2.2.2.2) : MTst), ())) := S_dl fun x _ => ⟨0, ev_dl 0 x.1 x.2.1⟩
theorem s_do : C_do (fun x => decide (List.length x.1.2.2.2.2 + 1 <= 4294967296)) (fun x => (((x.1.1, x.1.2.1, x.1.2.2.1, x.1.2.2.2.1, x.1.2.2.2.2 ++ [x.2.1]) : MTst), ())) := S_do fun x hx => ⟨0, (ev_do 0 x.1 x.2.1).trans (by rw [Qaz (of_decide_eq_true hx)]; rfl)⟩
theorem Qr7 {t : MTst} (h : tstOk t = true) : t.2.2.2.2.length <= 2 := (Qcn.1 (Qha (Qb2.1 h).1)).2.2.2
theorem s_dj : C_dj (fun x => smT x.1 && (decide (x.2.1 = 0) && (x.2.2.1 == decOk x.2.2.2.1.1))) (fun x => ((tstPut x.1 x.2.2.2.1.1).1, (tstPut x.1 x.2.2.2.1.1).2, ())) := S_dj s_dc s_cn s_di s_cm fun x hx => ⟨0, (ev_dj 0 x.1 x.2.1 x.2.2.1 x.2.2.2.1).trans (by
 simp only [Bool.and_eq_true, decide_eq_true_eq, beq_iff_eq] at hx
 obtain ⟨t, st, may, ⟨v, u⟩, u2⟩ := x
 obtain ⟨hx, h4, h5⟩ := hx
 change MTst at t
 change MDec at v
 change st = (0 : Int) at h4
 change may = decOk v at h5
 subst h4 h5
 have hx : smT t = true := hx
 have hx' : decide (List.length t.2.2.2.2 <= 4294967296) = true := hx
 show cl (smT t) (t, ()) _ = some ((tstPut t v).1, (tstPut t v).2, ())
 simp only [cl, hx, hx', cond_true]
 cases hc : (tstOk t && (decide (t.2.1 = (0 : Int)) && decOk v))
 ·have e : tstPut t v = (t, false) := by unfold tstPut; rw [hc]; rfl
  rw [e]
  have := p_turn (tstOk t) (decide (t.2.1 = (0 : Int))) (decOk v) (none : Option (MTst × Bool × Unit)) (some (t, false, ()))
  rw [hc] at this
  cases h1 : tstOk t
  ·rfl
  ·cases h2 : decide (t.2.1 = (0 : Int))
   ·rfl
   ·cases h3 : decOk v
    ·rfl
    ·rw [h1, h2, h3] at hc; cases hc
 ·have e : tstPut t v = (mkT t.1 v t.2.2.2.1 t.2.2.2.2, true) := by unfold tstPut; rw [hc]; rfl
  rw [e]
  simp only [Bool.and_eq_true, decide_eq_true_eq] at hc
  obtain ⟨h1, h2, h3⟩ := hc
  have hp : tsPre ((t.1, t.2.1, v, t.2.2.2) : MTst) = true := Qfi (Qnk h1 h2 h3)
  simp only [h1, decide_eq_true h2, h3, hp, cond_true, cond_false]
  rfl)⟩
theorem s_dk : C_dk (fun x => smT x.1) (fun x => ((tstPut x.1 x.2.1).1, (tstPut x.1 x.2.1).2, ())) := S_dk s_c4 s_dj fun x hx => ⟨0, (ev_dk 0 x.1 x.2.1).trans (cl_eq (by
 have hx : smT x.1 = true := hx
 show (smT x.1 && (decide ((0 : Int) = 0) && (decOk x.2.1 == decOk x.2.1))) = true
 rw [hx, beq_self_eq_true]; rfl))⟩
theorem s_bc : C_bc (fun x => smT x.1) (fun x => ((tstPut x.1 x.2.1).1, (tstPut x.1 x.2.1).2, ())) := S_bc s_aq s_b9 s_ab s_b8 fun x hx => ⟨0, (ev_bc 0 x.1 x.2.1).trans (by
 obtain ⟨t, v, u⟩ := x
 change MTst at t
 change MDec at v
 have hx : smT t = true := hx
 show cl (smT t) (t, ()) _ = some ((tstPut t v).1, (tstPut t v).2, ())
 simp only [cl, hx, cond_true]
 cases hc : (tstOk t && (decide (t.2.1 = (0 : Int)) && decOk v))
 ·have e : tstPut t v = (t, false) := by unfold tstPut; rw [hc]; rfl
  rw [e]
  cases h1 : tstOk t
  ·rfl
  ·cases h2 : decide (t.2.1 = (0 : Int))
   ·cases decOk v <;> rfl
   ·cases h3 : decOk v
    ·rfl
    ·rw [h1, h2, h3] at hc; cases hc
 ·have e : tstPut t v = (mkT t.1 v t.2.2.2.1 t.2.2.2.2, true) := by unfold tstPut; rw [hc]; rfl
  rw [e]
  simp only [Bool.and_eq_true, decide_eq_true_eq] at hc
  obtain ⟨h1, h2, h3⟩ := hc
  have hp : tsPre ((t.1, t.2.1, v, t.2.2.2) : MTst) = true := Qfi (Qnk h1 h2 h3)
  simp only [h1, decide_eq_true h2, h3, hp, cond_true, cond_false]
  rfl)⟩
theorem s_dm : C_dm (fun x => smT x.1 && (decide (x.2.1 = 1) && (x.2.2.1 == inq x.2.2.2.1.1 1 3))) (fun x => ((tstCause x.1 x.2.2.2.1.1).1, (tstCause x.1 x.2.2.2.1.1).2, ())) := S_dm s_dc s_cn s_dl s_cm fun x hx => ⟨0, (ev_dm 0 x.1 x.2.1 x.2.2.1 x.2.2.2.1).trans (by
 simp only [Bool.and_eq_true, decide_eq_true_eq, beq_iff_eq] at hx
 obtain ⟨t, st, may, ⟨v, u⟩, u2⟩ := x
 obtain ⟨hx, h4, h5⟩ := hx
 change MTst at t
 change Int at v
 change st = (1 : Int) at h4
 change may = inq v 1 3 at h5
 subst h4 h5
 have hx : smT t = true := hx
 have hx' : decide (List.length t.2.2.2.2 <= 4294967296) = true := hx
 show cl (smT t) (t, ()) _ = some ((tstCause t v).1, (tstCause t v).2, ())
 simp only [cl, hx, hx', cond_true]
 cases hc : (tstOk t && (decide (t.2.1 = (1 : Int)) && inq v 1 3))
 ·have e : tstCause t v = (t, false) := by unfold tstCause; rw [hc]; rfl
  rw [e]
  have := p_turn (tstOk t) (decide (t.2.1 = (1 : Int))) (inq v 1 3) (none : Option (MTst × Bool × Unit)) (some (t, false, ()))
  rw [hc] at this
  cases h1 : tstOk t
  ·rfl
  ·cases h2 : decide (t.2.1 = (1 : Int))
   ·rfl
   ·cases h3 : inq v 1 3
    ·rfl
    ·rw [h1, h2, h3] at hc; cases hc
 ·have e : tstCause t v = (mkT t.1 t.2.2.1 v t.2.2.2.2, true) := by unfold tstCause; rw [hc]; rfl
  rw [e]
  simp only [Bool.and_eq_true, decide_eq_true_eq] at hc
  obtain ⟨h1, h2, h3⟩ := hc
  have hp : tsPre ((t.1, t.2.1, t.2.2.1, v, t.2.2.2.2) : MTst) = true := Qfi (Qjx h1 h2 h3)
  simp only [h1, decide_eq_true h2, h3, hp, cond_true, cond_false]
  rfl)⟩
theorem s_dn : C_dn (fun x => smT x.1) (fun x => ((tstCause x.1 x.2.1).1, (tstCause x.1 x.2.1).2, ())) := S_dn s_iin s_dm fun x hx => ⟨0, (ev_dn 0 x.1 x.2.1).trans (cl_eq (by
 have hx : smT x.1 = true := hx
 show (smT x.1 && (decide ((1 : Int) = 1) && (inq x.2.1 1 3 == inq x.2.1 1 3))) = true
 rw [hx, beq_self_eq_true]; rfl))⟩
theorem s_bd : C_bd (fun x => smT x.1) (fun x => ((tstCause x.1 x.2.1).1, (tstCause x.1 x.2.1).2, ())) := S_bd s_aq s_b9 s_a3 s_b8 fun x hx => ⟨0, (ev_bd 0 x.1 x.2.1).trans (by
 obtain ⟨t, v, u⟩ := x
 change MTst at t
 change Int at v
 have hx : smT t = true := hx
 show cl (smT t) (t, ()) _ = some ((tstCause t v).1, (tstCause t v).2, ())
 simp only [cl, hx, cond_true]
 cases hc : (tstOk t && (decide (t.2.1 = (1 : Int)) && inq v 1 3))
 ·have e : tstCause t v = (t, false) := by unfold tstCause; rw [hc]; rfl
  rw [e]
  cases h1 : tstOk t
  ·rfl
  ·cases h2 : decide (t.2.1 = (1 : Int))
   ·cases inq v 1 3 <;> rfl
   ·cases h3 : inq v 1 3
    ·rfl
    ·rw [h1, h2, h3] at hc; cases hc
 ·have e : tstCause t v = (mkT t.1 t.2.2.1 v t.2.2.2.2, true) := by unfold tstCause; rw [hc]; rfl
  rw [e]
  simp only [Bool.and_eq_true, decide_eq_true_eq] at hc
  obtain ⟨h1, h2, h3⟩ := hc
  have hp : tsPre ((t.1, t.2.1, t.2.2.1, v, t.2.2.2.2) : MTst) = true := Qfi (Qjx h1 h2 h3)
  simp only [h1, decide_eq_true h2, h3, hp, cond_true, cond_false]
  rfl)⟩
theorem s_dp : C_dp (fun x => smT x.1 && (decide (x.2.1 = 2) && (x.2.2.1 == decOk x.2.2.2.1.1))) (fun x => ((tstMore x.1 x.2.2.2.1.1).1, (tstMore x.1 x.2.2.2.1.1).2, ())) := S_dp s_dc s_cn s_do s_cm fun x hx => ⟨0, (ev_dp 0 x.1 x.2.1 x.2.2.1 x.2.2.2.1).trans (by
 simp only [Bool.and_eq_true, decide_eq_true_eq, beq_iff_eq] at hx
 obtain ⟨t, st, may, ⟨v, u⟩, u2⟩ := x
 obtain ⟨hx, h4, h5⟩ := hx
 change MTst at t
 change MDec at v
 change st = (2 : Int) at h4
 change may = decOk v at h5
 subst h4 h5
 have hx : smT t = true := hx
 have hx' : decide (List.length t.2.2.2.2 <= 4294967296) = true := hx
 show cl (smT t) (t, ()) _ = some ((tstMore t v).1, (tstMore t v).2, ())
 simp only [cl, hx, hx', cond_true]
 cases hc : (tstOk t && (decide (t.2.1 = (2 : Int)) && decOk v))
 ·have e : tstMore t v = (t, false) := by unfold tstMore; rw [hc]; rfl
  rw [e]
  have := p_turn (tstOk t) (decide (t.2.1 = (2 : Int))) (decOk v) (none : Option (MTst × Bool × Unit)) (some (t, false, ()))
  rw [hc] at this
  cases h1 : tstOk t
  ·rfl
  ·cases h2 : decide (t.2.1 = (2 : Int))
   ·rfl
   ·cases h3 : decOk v
    ·rfl
    ·rw [h1, h2, h3] at hc; cases hc
 ·have e : tstMore t v = (mkT t.1 t.2.2.1 t.2.2.2.1 (t.2.2.2.2 ++ [v]), true) := by unfold tstMore; rw [hc]; rfl
  rw [e]
  simp only [Bool.and_eq_true, decide_eq_true_eq] at hc
  obtain ⟨h1, h2, h3⟩ := hc
  have hl := Qr7 h1
  have hl' : decide (List.length t.2.2.2.2 + 1 <= 4294967296) = true := decide_eq_true (by omega)
  have hf : fitL t.2.2.2.2 [v] = true := Qaz (by show t.2.2.2.2.length + 1 <= _; omega)
  have hp : tsPre ((t.1, t.2.1, t.2.2.1, t.2.2.2.1, t.2.2.2.2 ++ [v]) : MTst) = true := Qfi (Qlf h1 h2 h3)
  simp only [h1, decide_eq_true h2, h3, hp, hl', cond_true, cond_false]
  rfl)⟩
theorem s_dq : C_dq (fun x => smT x.1) (fun x => ((tstMore x.1 x.2.1).1, (tstMore x.1 x.2.1).2, ())) := S_dq s_c4 s_dp fun x hx => ⟨0, (ev_dq 0 x.1 x.2.1).trans (cl_eq (by
 have hx : smT x.1 = true := hx
 show (smT x.1 && (decide ((2 : Int) = 2) && (decOk x.2.1 == decOk x.2.1))) = true
 rw [hx, beq_self_eq_true]; rfl))⟩
theorem s_be : C_be (fun x => smT x.1) (fun x => ((tstMore x.1 x.2.1).1, (tstMore x.1 x.2.1).2, ())) := S_be s_aq s_b9 s_ab s_b8 fun x hx => ⟨0, (ev_be 0 x.1 x.2.1).trans (by
 obtain ⟨t, v, u⟩ := x
 change MTst at t
 change MDec at v
 have hx : smT t = true := hx
 show cl (smT t) (t, ()) _ = some ((tstMore t v).1, (tstMore t v).2, ())
 simp only [cl, hx, cond_true]
 cases hc : (tstOk t && (decide (t.2.1 = (2 : Int)) && decOk v))
 ·have e : tstMore t v = (t, false) := by unfold tstMore; rw [hc]; rfl
  rw [e]
  cases h1 : tstOk t
  ·rfl
  ·cases h2 : decide (t.2.1 = (2 : Int))
   ·cases decOk v <;> rfl
   ·cases h3 : decOk v
    ·rfl
    ·rw [h1, h2, h3] at hc; cases hc
 ·have e : tstMore t v = (mkT t.1 t.2.2.1 t.2.2.2.1 (t.2.2.2.2 ++ [v]), true) := by unfold tstMore; rw [hc]; rfl
  rw [e]
  simp only [Bool.and_eq_true, decide_eq_true_eq] at hc
  obtain ⟨h1, h2, h3⟩ := hc
  have hl := Qr7 h1
  have hl' : decide (List.length t.2.2.2.2 + 1 <= 4294967296) = true := decide_eq_true (by omega)
  have hf : fitL t.2.2.2.2 [v] = true := Qaz (by show t.2.2.2.2.length + 1 <= _; omega)
  have hp : tsPre ((t.1, t.2.1, t.2.2.1, t.2.2.2.1, t.2.2.2.2 ++ [v]) : MTst) = true := Qfi (Qlf h1 h2 h3)
  simp only [h1, decide_eq_true h2, h3, hp, hf, cond_true, cond_false]
  exact (congrArg (fun b => bif b then _ else none) hp).trans rfl)⟩
end Go.Proofs.YtddpemilmeijfaaGreat

set_option linter.unusedVariables false
set_option linter.unusedSimpArgs false
namespace Go.Proofs.YtddpemilmeijfaaGreat
open Go.Vm
theorem Qus {t : MTst} {n : Nat} (h : List.length t.2.2.2.2 <= n) (hn : n <= 4294967296) : smT t = true := decide_eq_true (Nat.le_trans h hn)
theorem Qgm : ∃ fn : In_af -> Out_af, ∀ x, (fun x : In_af => rdB 2 x.1) x = true -> (∃ k, E_af (fun x => (decAt x.1 x.2.1, ())) Qaa (fun x => rdB 1 x.1) k x = some (fn x)) /\ (fun (x : In_af) (v : Out_af) => Step 2 x.1 v.2.1 /\ True) x (fn x) := by
 refine Qax (fun k x => E_af (fun x => (decAt x.1 x.2.1, ())) Qaa (fun x => rdB 1 x.1) k x) (fun x : In_af => rdB 2 x.1) (fun (x : In_af) (v : Out_af) => Step 2 x.1 v.2.1 /\ True) ((0, 0), (([], 0), ())) fun x hx => ?_
 have key : ∀ (r0 : MRd) (a1 : MAsk), RdOk 2 r0 -> Gets (E_af (fun x => (decAt x.1 x.2.1, ())) Qaa (fun x => rdB 1 x.1) 0 (r0, a1, ())) (fun v => Step 2 r0 v.2.1 /\ True) := by
  intro r0 a1 h0
  have hs := Step.refl r0
  rw [ev_af 0 r0 a1]
  repeat' first
   | refine Qam (Q := PickQ) Qaf h0 rfl (by assumption) (by decide) fun y r' hq hs => ?_
   | refine Qah (Qdy (by assumption) (by decide) (by decide)) ?_
   | refine Qab (Qdy (by assumption) (by decide) (by decide)) ?_
   | refine Qab (Qc4 (by assumption) (by decide) (by exact Int.le_refl _)) ?_
   | exact Qac ⟨Step.mono (by assumption) (by decide), trivial⟩
   | refine Qae (fun hc => ?_) fun hc => ?_
 exact ⟨0, key x.1 x.2.1 (Qas.1 hx)⟩
noncomputable def Qa7 := Classical.choose Qgm
theorem Qoi (x : In_af) (hx : (fun x : In_af => rdB 2 x.1) x = true) : (fun (x : In_af) (v : Out_af) => Step 2 x.1 v.2.1 /\ True) x (Qa7 x) := (Classical.choose_spec Qgm x hx).2
theorem s_af : C_af (fun x => rdB 2 x.1) Qa7 := S_af s_ae s_a1 fun x hx => (Classical.choose_spec Qgm x hx).1
theorem Qem (r : MRd) (a : MAsk × Unit) (h : RdOk 2 r) : Step 2 r (Qa7 (r, a)).2.1 /\ (True) := Qoi (r, a) (Qas.2 h)
theorem Qim : ∃ fn : In_by -> Out_by, ∀ x, (fun x : In_by => rdB 40 x.1) x = true -> (∃ k, E_by Qaa (fun x => rdB 1 x.1) Qbi (fun x => rdB 14 x.1) (fun x => ((x.1, 0, (0, 0), 0, []), ())) Qa7 (fun x => rdB 2 x.1) (fun x => ((tstPut x.1 x.2.1).1, (tstPut x.1 x.2.1).2, ())) (fun x => smT x.1) (fun x => ((tstCause x.1 x.2.1).1, (tstCause x.1 x.2.1).2, ())) (fun x => smT x.1) (fun x => ((tstMore x.1 x.2.1).1, (tstMore x.1 x.2.1).2, ())) (fun x => smT x.1) Qbh (fun x => rdB 7 x.1) k x = some (fn x)) /\ (fun (x : In_by) (v : Out_by) => Step 40 x.1 v.2.1 /\ (List.length v.1.2.2.2.2 <= 3 /\ tS v.1)) x (fn x) := by
 refine Qax (fun k x => E_by Qaa (fun x => rdB 1 x.1) Qbi (fun x => rdB 14 x.1) (fun x => ((x.1, 0, (0, 0), 0, []), ())) Qa7 (fun x => rdB 2 x.1) (fun x => ((tstPut x.1 x.2.1).1, (tstPut x.1 x.2.1).2, ())) (fun x => smT x.1) (fun x => ((tstCause x.1 x.2.1).1, (tstCause x.1 x.2.1).2, ())) (fun x => smT x.1) (fun x => ((tstMore x.1 x.2.1).1, (tstMore x.1 x.2.1).2, ())) (fun x => smT x.1) Qbh (fun x => rdB 7 x.1) k x) (fun x : In_by => rdB 40 x.1) (fun (x : In_by) (v : Out_by) => Step 40 x.1 v.2.1 /\ (List.length v.1.2.2.2.2 <= 3 /\ tS v.1)) (((0, (0, 0), (0, 0), 0), 0, (0, 0), 0, []), (([], 0), ())) fun x hx => ?_
 have key : ∀ (r0 : MRd) (n0 : Int), RdOk 40 r0 -> Gets (E_by Qaa (fun x => rdB 1 x.1) Qbi (fun x => rdB 14 x.1) (fun x => ((x.1, 0, (0, 0), 0, []), ())) Qa7 (fun x => rdB 2 x.1) (fun x => ((tstPut x.1 x.2.1).1, (tstPut x.1 x.2.1).2, ())) (fun x => smT x.1) (fun x => ((tstCause x.1 x.2.1).1, (tstCause x.1 x.2.1).2, ())) (fun x => smT x.1) (fun x => ((tstMore x.1 x.2.1).1, (tstMore x.1 x.2.1).2, ())) (fun x => smT x.1) Qbh (fun x => rdB 7 x.1) 5 (r0, n0, ())) (fun v => Step 40 r0 v.2.1 /\ (List.length v.1.2.2.2.2 <= 3 /\ tS v.1)) := by
  intro r0 n0 h0
  have hs := Step.refl r0
  rw [ev_by 5 r0 n0]
  refine Qam (Q := PickQ) Qaf h0 rfl hs (by decide) fun y0 r' hq hs => ?_
  refine Qam (Q := fun a y => True) Qgb h0 rfl hs (by decide) fun a r' _ hs => ?_
  refine Qam (Q := PickQ) Qaf h0 rfl hs (by decide) fun y2 r' hq2 hs => ?_
  have hn1 : 0 <= y2 := hq2.1
  have hn2 : y2 < 5 := hq2.2 (show (1 : Int) <= 5 by decide)
  obtain ⟨n, hn⟩ : ∃ n : Nat, y2 = (n : Int) := ⟨y2.toNat, by omega⟩
  subst hn
  obtain ⟨e, he⟩ : ∃ e : Nat, 5 = e + (n + 1) := ⟨4 - n, by omega⟩
  rw [he]
  have ge := Qc8 (σ := MRd × MTst) (fun k i s => r_by Qaa (fun x => rdB 1 x.1) Qbi (fun x => rdB 14 x.1) (fun x => ((x.1, 0, (0, 0), 0, []), ())) Qa7 (fun x => rdB 2 x.1) (fun x => ((tstPut x.1 x.2.1).1, (tstPut x.1 x.2.1).2, ())) (fun x => smT x.1) (fun x => ((tstCause x.1 x.2.1).1, (tstCause x.1 x.2.1).2, ())) (fun x => smT x.1) (fun x => ((tstMore x.1 x.2.1).1, (tstMore x.1 x.2.1).2, ())) (fun x => smT x.1) Qbh (fun x => rdB 7 x.1) (r0, n0, ()) (e + k) pt0 (h0_by r0 n0 ((n - i : Nat) : Int) ((0 : Int), (((0 : Int), (0 : Int)), (((0 : Int), (0 : Int)), (0 : Int)))) (0 : Int) ((0 : Int), (0 : Int)) (0 : Int) [] s.2.1 s.2.2.1 s.2.2.2.1 s.2.2.2.2.1 s.2.2.2.2.2 s.1)) (fun v => Step 40 r0 v.2.1 /\ (List.length v.1.2.2.2.2 <= 3 /\ tS v.1)) (fun i s => i <= n /\ Step (16 + 2 * i) r0 s.1 /\ (List.length s.2.2.2.2.2 <= 2 /\ tR s.2)) n (fun k s hs => ?_) (fun k i s hi hs next => ?_) n 0 (r', (a, 0, (0, 0), 0, [])) (by omega) ⟨Nat.zero_le _, hs, Nat.zero_le _, show (0 : Int) <= 0 /\ (0 : Int) <= 4 by decide⟩
  ·exact ge
  ·obtain ⟨r, t⟩ := s
   obtain ⟨_, hs, hl, hr⟩ := hs
   have hr : tR t := hr
   have hs : Step (16 + 2 * n) r0 r := hs
   have hl : List.length t.2.2.2.2 <= 2 := hl
   have hs : Step 24 r0 r := hs.mono (by omega)
   have z : ((n - n : Nat) : Int) = 0 := by omega
   show Gets (r_by Qaa (fun x => rdB 1 x.1) Qbi (fun x => rdB 14 x.1) (fun x => ((x.1, 0, (0, 0), 0, []), ())) Qa7 (fun x => rdB 2 x.1) (fun x => ((tstPut x.1 x.2.1).1, (tstPut x.1 x.2.1).2, ())) (fun x => smT x.1) (fun x => ((tstCause x.1 x.2.1).1, (tstCause x.1 x.2.1).2, ())) (fun x => smT x.1) (fun x => ((tstMore x.1 x.2.1).1, (tstMore x.1 x.2.1).2, ())) (fun x => smT x.1) Qbh (fun x => rdB 7 x.1) (r0, n0, ()) (e + k + 1) pt0 (h0_by r0 n0 ((n - n : Nat) : Int) ((0 : Int), (((0 : Int), (0 : Int)), (((0 : Int), (0 : Int)), (0 : Int)))) (0 : Int) ((0 : Int), (0 : Int)) (0 : Int) [] t.1 t.2.1 t.2.2.1 t.2.2.2.1 t.2.2.2.2 r)) _
   rw [z, rd0_by]
   refine Qae (fun h => absurd (of_decide_eq_true h) (by decide)) fun _ => ?_
   have hl3 : List.length t.2.2.2.2 <= 3 /\ tS t := ⟨Nat.le_trans hl (by decide), tS_of hr⟩
   refine Qam (Q := PickQ) Qaf h0 rfl hs (by decide) fun y6 r' _ hs => ?_
   refine Qae (fun _ => Qac ⟨hs.mono (by decide), hl3⟩) fun _ => ?_
   refine Qam (Q := PickQ) Qaf h0 rfl hs (by decide) fun y7 r' _ hs => ?_
   refine Qae (fun _ => ?_) fun _ => ?_
   ·exact Qam (Q := PickQ) Qaf h0 rfl hs (by decide) fun y8 r' hq8 hs => Qac ⟨hs.mono (by decide), hl3.1, Qt6 hq8⟩
   refine Qae (fun _ => ?_) fun _ => ?_
   ·exact Qam (Q := fun a y => True) Qga h0 rfl hs (by decide) fun y8 r' _ hs => Qac ⟨hs.mono (by decide), hl3⟩
   refine Qae (fun _ => ?_) fun _ => ?_
   ·exact Qam (Q := PickQ) Qaf h0 rfl hs (by decide) fun y8 r' _ hs => Qac ⟨hs.mono (by decide), hl3⟩
   refine Qae (fun _ => ?_) fun _ => ?_
   ·refine Qam (Q := fun a y => True) Qga h0 rfl hs (by decide) fun y8 r' _ hs => Qab (Qaz (by show t.2.2.2.2.length + 1 <= _; omega)) (Qac ⟨hs.mono (by decide), ?_, hl3.2⟩)
    show List.length (t.2.2.2.2 ++ [y8]) <= 3
    rw [List.length_append]; show t.2.2.2.2.length + 1 <= 3; omega
   ·exact Qam (Q := fun a y => True) Qgb h0 rfl hs (by decide) fun y8 r' _ hs => Qac ⟨hs.mono (by decide), hl3⟩
  ·obtain ⟨r, t⟩ := s
   obtain ⟨_, hs, hl, hr⟩ := hs
   have hr : tR t := hr
   have hs : Step (16 + 2 * i) r0 r := hs
   have hl : List.length t.2.2.2.2 <= 2 := hl
   have hp : smT t = true := Qus hl (by decide)
   have hw : w64 (((n - i : Nat) : Int) - 1) = ((n - (i + 1) : Nat) : Int) := by rw [Qak (by omega) (by omega)]; omega
   show Gets (r_by Qaa (fun x => rdB 1 x.1) Qbi (fun x => rdB 14 x.1) (fun x => ((x.1, 0, (0, 0), 0, []), ())) Qa7 (fun x => rdB 2 x.1) (fun x => ((tstPut x.1 x.2.1).1, (tstPut x.1 x.2.1).2, ())) (fun x => smT x.1) (fun x => ((tstCause x.1 x.2.1).1, (tstCause x.1 x.2.1).2, ())) (fun x => smT x.1) (fun x => ((tstMore x.1 x.2.1).1, (tstMore x.1 x.2.1).2, ())) (fun x => smT x.1) Qbh (fun x => rdB 7 x.1) (r0, n0, ()) (e + k + 1) pt0 (h0_by r0 n0 ((n - i : Nat) : Int) ((0 : Int), (((0 : Int), (0 : Int)), (((0 : Int), (0 : Int)), (0 : Int)))) (0 : Int) ((0 : Int), (0 : Int)) (0 : Int) [] t.1 t.2.1 t.2.2.1 t.2.2.2.1 t.2.2.2.2 r)) _
   rw [rd0_by, hw]
   refine Qae (fun _ => ?_) fun h => absurd (show (0 : Int) < ((n - i : Nat) : Int) by omega) (of_decide_eq_false h)
   refine Qae (fun _ => ?_) fun _ => ?_
   ·refine Qam (Q := fun a y => True) Qem h0 rfl hs (by omega) fun v r' _ hs => Qah hp ?_
    exact next (r', (tstPut t v).1) ⟨by omega, hs.mono (by omega), by rw [Qt1]; exact hl, Qup hr⟩
   refine Qae (fun _ => ?_) fun _ => ?_
   ·refine Qam (Q := PickQ) Qaf h0 rfl hs (by omega) fun v r' _ hs => Qah hp ?_
    exact next (r', (tstCause t (w64 ((1 : Int) + v))).1) ⟨by omega, hs.mono (by omega), by rw [Qrv]; exact hl, Qte hr⟩
   refine Qae (fun _ => ?_) fun _ => ?_
   ·refine Qam (Q := fun a y => True) Qem h0 rfl hs (by omega) fun v r' _ hs => Qah hp ?_
    exact next (r', (tstMore t v).1) ⟨by omega, hs.mono (by omega), Qs8 hl (Nat.le_refl _), Qt5 hr⟩
   ·exact next (r, t) ⟨by omega, hs.mono (by omega), hl, hr⟩
 exact ⟨5, key x.1 x.2.1 (Qas.1 hx)⟩
noncomputable def Qc9 := Classical.choose Qim
theorem Qr8 (x : In_by) (hx : (fun x : In_by => rdB 40 x.1) x = true) : (fun (x : In_by) (v : Out_by) => Step 40 x.1 v.2.1 /\ (List.length v.1.2.2.2.2 <= 3 /\ tS v.1)) x (Qc9 x) := (Classical.choose_spec Qim x hx).2
theorem s_by : C_by (fun x => rdB 40 x.1) Qc9 := S_by s_a1 s_a7 s_b0 s_af s_bc s_bd s_be s_a6 fun x hx => (Classical.choose_spec Qim x hx).1
theorem Qqf (r : MRd) (a : Int × Unit) (h : RdOk 40 r) : Step 40 r (Qc9 (r, a)).2.1 /\ (fun (a : Int × Unit) (y : MTst) => List.length y.2.2.2.2 <= 3 /\ tS y) a (Qc9 (r, a)).1 := Qr8 (r, a) (Qas.2 h)
end Go.Proofs.YtddpemilmeijfaaGreat

set_option linter.unusedVariables false
set_option linter.unusedSimpArgs false
namespace Go.Proofs.YtddpemilmeijfaaGreat
open Go.Vm
theorem p_batNew {k n : Int} {l : List MAsk} (A : Option (MBat × Unit)) (hA : inq k 0 5 = true -> testsOk l = true -> inq n 1 10000 = true -> A = some ((k, n, l.map newT, 1, [], []), ())) :
  (bif (bif inq k 0 5 then false else true) then (some (((0 : Int), ((0 : Int), ([], ((0 : Int), ([], []))))), ())) else (bif (bif testsOk l then false else true) then (some (((0 : Int), ((0 : Int), ([], ((0 : Int), ([], []))))), ())) else (bif (bif inq n 1 10000 then false else true) then (some (((0 : Int), ((0 : Int), ([], ((0 : Int), ([], []))))), ())) else A))) = some (batNew k l n, ()) := by
 unfold batNew
 cases h1 : inq k 0 5
 ·rfl
 ·cases h2 : testsOk l
  ·rfl
  ·cases h3 : inq n 1 10000
   ·rfl
   ·exact hA h1 h2 h3
theorem s_b1 : C_b1 (fun x => smA x.2.1) (fun x => (batNew x.1 x.2.1 x.2.2.1, ())) := S_b1 s_a3 s_av s_b0 fun x hx => ⟨List.length x.2.1 + 1, (ev_b1 _ x.1 x.2.1 x.2.2.1).trans (by
 obtain ⟨k, l, n, u⟩ := x
 change List MAsk at l
 have hl : List.length l <= 4294967296 := of_decide_eq_true hx
 refine p_batNew (l := l) _ fun h1 h2 h3 => ?_
 have := Qa9 (σ := List MTst) l (fun f i out => r_b1 (fun x => (inq x.1 x.2.1 x.2.2.1, ())) (fun x => (testsOk x.1, ())) (fun x => ((x.1, 0, (0, 0), 0, []), ())) (k, l, n, ()) f pt2 (h0_b1 k l n (i : Int) (0 : Int) (0 : Int) (0 : Int) [] [] [] (1 : Int) out [] [])) (fun r i out => ((k, n, out ++ r.map newT, 1, [], []), ())) (fun i out => out.length = i) (fun f s hs => by
  rw [rd0_b1, Qaj (Nat.le_refl _), List.map_nil, List.append_nil]; rfl) (fun f i y r s hd hi hs => by
  refine .inr ⟨s ++ [newT y], by rw [List.length_append]; show s.length + 1 = i + 1; omega, ?_, by simp⟩
  rw [rd0_b1, Qai hi, Qal hi, Qan (by omega), Qag hd, Qaz (by show s.length + 1 <= _; omega)]; rfl) l.length 0 [] (by omega) rfl
 simpa using this)⟩
theorem Qt8 (a b : MSig) : Sh.beq S_BatSig a b = same a b := by
 show (decide (a.1 = b.1) && (decide (a.2.1 = b.2.1) && decide (a.2.2 = b.2.2))) = _
 simp only [Qcw, Qa8]
theorem Qtg (a b : Bool) : (a == b) = same a b := by
 cases a <;> cases b <;> first | exact (Qaw _).symm | exact (Qcm (by decide)).symm
theorem Qth (a b : MBat) : same a b = (same a.1 b.1 && (same a.2.1 b.2.1 && (same a.2.2.2.1 b.2.2.2.1 && (same a.2.2.1 b.2.2.1 && (same a.2.2.2.2.1 b.2.2.2.2.1 && same a.2.2.2.2.2 b.2.2.2.2.2))))) := by
 rw [show same a b = same (a.1, a.2.1, a.2.2.1, a.2.2.2.1, a.2.2.2.2.1, a.2.2.2.2.2) (b.1, b.2.1, b.2.2.1, b.2.2.2.1, b.2.2.2.2.1, b.2.2.2.2.2) from rfl, <- Qa8, <- Qa8, <- Qa8, <- Qa8, <- Qa8]
 cases same a.1 b.1 <;> cases same a.2.1 b.2.1 <;> cases same a.2.2.1 b.2.2.1 <;> cases same a.2.2.2.1 b.2.2.2.1 <;> rfl
theorem s_dw : C_dw (fun x => smB x.1) (fun x => (same x.1 x.2.1, ())) := S_dw s_dv fun x hx => by
 obtain ⟨a, b, u⟩ := x
 change MBat at a
 change MBat at b
 have hx : smB a = true := hx
 obtain ⟨h1, h2, h3, h4⟩ := Qbv.1 hx
 show ∃ k, E_dw (fun x => (same x.1 x.2.1, ())) (fun x => decide (List.length x.1.2.2.2.2 <= 4294967296)) k (a, b, ()) = some (same a b, ())
 have key : (List.length a.2.2.1 = List.length b.2.2.1 -> List.length a.2.2.2.2.1 = List.length b.2.2.2.2.1 -> List.length a.2.2.2.2.2 = List.length b.2.2.2.2.2 -> ∃ k, r_dw (fun x => (same x.1 x.2.1, ())) (fun x => decide (List.length x.1.2.2.2.2 <= 4294967296)) (a, b, ()) k pt0 (h0_dw a b (0 : Int)) = some (same a.2.2.1 b.2.2.1 && (same a.2.2.2.2.1 b.2.2.2.2.1 && same a.2.2.2.2.2 b.2.2.2.2.2), ())) := by
  intro e1 e2 e3
  refine Qhd (α := MTst) a.2.2.1 b.2.2.1 e1 _ (fun k i => r_dw (fun x => (same x.1 x.2.1, ())) (fun x => decide (List.length x.1.2.2.2.2 <= 4294967296)) (a, b, ()) k pt0 (h0_dw a b (i : Int))) ?_ (fun k i y z r r' hd hd' hi hi' => ?_)
  ·obtain ⟨k, hk⟩ := Qhd (α := MSig) a.2.2.2.2.1 b.2.2.2.2.1 e2 (same a.2.2.2.2.2 b.2.2.2.2.2) (fun k i => r_dw (fun x => (same x.1 x.2.1, ())) (fun x => decide (List.length x.1.2.2.2.2 <= 4294967296)) (a, b, ()) k pt2 (h1_dw a b (i : Int))) (by
    obtain ⟨k, hk⟩ := Qhd (α := Bool) a.2.2.2.2.2 b.2.2.2.2.2 e3 true (fun k i => r_dw (fun x => (same x.1 x.2.1, ())) (fun x => decide (List.length x.1.2.2.2.2 <= 4294967296)) (a, b, ()) k pt8 (h2_dw a b (i : Int))) ⟨1, by rw [rd2_dw, Qaj (Nat.le_refl _)]; rfl⟩ (fun k i y z r r' hd hd' hi hi' => by
     rw [rd2_dw, Qai hi, Qai hi', Qal hi, Qan (by omega), Qag hd, Qag hd', Qtg]
     cases same y z <;> rfl)
    rw [Bool.and_true] at hk
    exact ⟨k + 1, by rw [rd1_dw, Qaj (Nat.le_refl _)]; exact hk⟩) (fun k i y z r r' hd hd' hi hi' => by
     rw [rd1_dw, Qai hi, Qai hi', Qal hi, Qan (by omega), Qag hd, Qag hd', Qt8]
     cases same y z <;> rfl)
   exact ⟨k + 1, by rw [rd0_dw, Qaj (Nat.le_refl _)]; exact hk⟩
  ·have hp : decide (List.length y.2.2.2.2 <= 4294967296) = true := decide_eq_true (h2 y (Qce hd))
   rw [rd0_dw, Qai hi, Qai hi', Qal hi, Qan (by omega), Qag hd, Qag hd']
   simp only [cl, hp, cond_true]
   cases same y z <;> rfl
 rw [Qth a b]
 have ev := fun k => ev_dw (g_dv := fun x => (same x.1 x.2.1, ())) (p_dv := fun x => decide (List.length x.1.2.2.2.2 <= 4294967296)) k a b
 simp only [ev, Qcw]
 cases same a.1 b.1
 ·exact ⟨0, rfl⟩
 ·cases same a.2.1 b.2.1
  ·exact ⟨0, rfl⟩
  ·cases same a.2.2.2.1 b.2.2.2.1
   ·exact ⟨0, rfl⟩
   ·by_cases e1 : List.length a.2.2.1 = List.length b.2.2.1
    ·by_cases e2 : List.length a.2.2.2.2.1 = List.length b.2.2.2.2.1
     ·by_cases e3 : List.length a.2.2.2.2.2 = List.length b.2.2.2.2.2
      ·obtain ⟨k, hk⟩ := key e1 e2 e3
       refine ⟨k, ?_⟩
       simp only [e1, e2, e3, Qaw, cond_true, cond_false, Bool.true_and]
       exact hk
      ·refine ⟨0, ?_⟩
       have e3' : same (List.length a.2.2.2.2.2 : Int) (List.length b.2.2.2.2.2 : Int) = false := Qcm (by omega)
       rw [Qhe e3, e3']
       simp only [e1, e2, Qaw, cond_true, cond_false, Bool.and_false]
     ·refine ⟨0, ?_⟩
      have e2' : same (List.length a.2.2.2.2.1 : Int) (List.length b.2.2.2.2.1 : Int) = false := Qcm (by omega)
      rw [Qhe e2, e2']
      simp only [e1, Qaw, cond_true, cond_false, Bool.and_false, Bool.false_and]
    ·refine ⟨0, ?_⟩
     have e1' : same (List.length a.2.2.1 : Int) (List.length b.2.2.1 : Int) = false := Qcm (by omega)
     rw [Qhe e1, e1']
     simp only [cond_true, cond_false, Bool.and_false, Bool.false_and]
theorem s_cp : C_cp (fun _ => true) (fun x => (signs x.1, ())) := S_cp fun x _ => ⟨0, (ev_cp 0 x.1).trans (by
 have key : ∀ c : Int, (bif (decide (c = (2 : Int))) then (some (true, ())) else (some ((decide (c = (3 : Int))), ()))) = some (signs c, ()) := fun c => by
  unfold signs; cases decide (c = 2) <;> rfl
 exact key x.1)⟩
theorem s_cq : C_cq (fun _ => true) (fun x => (sigOk x.1, ())) := S_cq s_co s_cp s_iin fun x _ => ⟨0, (ev_cq 0 x.1).trans (by
 have key : ∀ s : MSig, (bif inq s.1 1 5 then (bif signs s.2.1 then some (inq s.2.2 0 999982, ()) else some (false, ())) else some (false, ())) = some (sigOk s, ()) := fun s => by
  unfold sigOk; cases inq s.1 1 5 <;> cases signs s.2.1 <;> rfl
 exact key x.1)⟩
theorem s_cr : C_cr (fun _ => true) (fun x => (!sigOk x.1, ())) := S_cr s_cq fun x _ => ⟨0, (ev_cr 0 x.1).trans (by simp only [Qdx])⟩
theorem s_cu : C_cu (fun _ => true) (fun x => (!passed x.1, ())) := S_cu fun x _ => ⟨0, (ev_cu 0 x.1).trans (by simp only [Qdx]; rfl)⟩
theorem s_cs : C_cs (fun x => decide (List.length x.1 <= 4294967296)) (fun x => (idxOf (fun d : MSig => !sigOk d) x.1 0, ())) := S_cs s_cr fun x hx => ⟨List.length x.1 + 1, (ev_cs _ x.1 x.2.1).trans (by
 have hx : List.length x.1 <= 4294967296 := of_decide_eq_true hx
 refine Qc6 (α := MSig) x.1 (fun d => !sigOk d) (fun k i => r_cs (fun x => (!sigOk x.1, ())) (fun _ => true) (x.1, x.2.1, ()) k pt1 (h0_cs x.1 x.2.1 (List.length x.1 : Int) (i : Int))) (fun k => ?_) (fun k i y r hd hi => ?_)
 ·rw [rd0_cs, Qaj (Nat.le_refl _)]; rfl
 ·rw [rd0_cs, Qai hi, Qal hi, Qan (by omega), Qag hd]; rfl)⟩
theorem s_ct : C_ct (fun x => decide (List.length x.1 <= 4294967296)) (fun x => (List.any x.1 (fun d : MSig => !sigOk d), ())) := S_ct s_cs fun x hx => ⟨0, (ev_ct 0 x.1 x.2.1).trans (by
 have hx : decide (List.length x.1 <= 4294967296) = true := hx
 simp only [cl, hx, cond_true, Qc7])⟩
theorem s_cv : C_cv (fun x => decide (List.length x.1 <= 4294967296)) (fun x => (idxOf (fun d : MTst => !passed d) x.1 0, ())) := S_cv s_cu fun x hx => ⟨List.length x.1 + 1, (ev_cv _ x.1 x.2.1).trans (by
 have hx : List.length x.1 <= 4294967296 := of_decide_eq_true hx
 refine Qc6 (α := MTst) x.1 (fun d => !passed d) (fun k i => r_cv (fun x => (!passed x.1, ())) (x.1, x.2.1, ()) k pt1 (h0_cv x.1 x.2.1 (List.length x.1 : Int) (i : Int))) (fun k => ?_) (fun k i y r hd hi => ?_)
 ·rw [rd0_cv, Qaj (Nat.le_refl _)]; rfl
 ·rw [rd0_cv, Qai hi, Qal hi, Qan (by omega), Qag hd]; rfl)⟩
theorem s_cw : C_cw (fun x => decide (List.length x.1 <= 4294967296)) (fun x => (List.any x.1 (fun d : MTst => !passed d), ())) := S_cw s_cv fun x hx => ⟨0, (ev_cw 0 x.1 x.2.1).trans (by
 have hx : decide (List.length x.1 <= 4294967296) = true := hx
 simp only [cl, hx, cond_true, Qc7])⟩
theorem s_cx : C_cx (fun x => decide (List.length x.1 <= 4294967296)) (fun x => (idxOf (fun d : Bool => x.2.1 == d) x.1 0, ())) := S_cx fun x hx => ⟨List.length x.1 + 1, (ev_cx _ x.1 x.2.1).trans (by
 have hx : List.length x.1 <= 4294967296 := of_decide_eq_true hx
 refine Qc6 (α := Bool) x.1 (fun d => x.2.1 == d) (fun k i => r_cx (x.1, x.2.1, ()) k pt1 (h0_cx x.1 x.2.1 (List.length x.1 : Int) (i : Int))) (fun k => ?_) (fun k i y r hd hi => ?_)
 ·rw [rd0_cx, Qaj (Nat.le_refl _)]; rfl
 ·rw [rd0_cx, Qai hi, Qal hi, Qan (by omega), Qag hd]; rfl)⟩
theorem s_cy : C_cy (fun x => decide (List.length x.1 <= 4294967296)) (fun x => (List.any x.1 (fun d : Bool => x.2.1 == d), ())) := S_cy s_cx fun x hx => ⟨0, (ev_cy 0 x.1 x.2.1).trans (by
 have hx : decide (List.length x.1 <= 4294967296) = true := hx
 simp only [cl, hx, cond_true, Qc7])⟩
theorem s_cz : C_cz (fun x => mixPre x.1 x.2.1) (fun x => (mixes x.1 x.2.1, ())) := S_cz fun x hx => by
 obtain ⟨m, l, u⟩ := x
 change List Int at l
 obtain ⟨h1, h2⟩ := Qks.1 hx
 have h2 : List.length l <= 4294967296 := h2
 refine ⟨List.length l + 1, (ev_cz _ m l).trans ?_⟩
 have := Qa9 (σ := Int) l (fun k i c => r_cz (m, l, ()) k pt1 (h0_cz m l c (List.length l : Int) (i : Int))) (fun r i c => (mixes c r, ())) (fun i c => mkR c) (fun k c hc => by
  rw [rd0_cz, Qaj (Nat.le_refl _)]; rfl) (fun k i y r c hd hi hc => by
  refine .inr ⟨mix c y, mix_r hc, ?_, rfl⟩
  rw [rd0_cz, Qai hi, Qal hi, Qan (by omega), Qag hd, mix_w hc]; rfl) l.length 0 m (by omega) h1
 simpa using this
theorem Qr9 {m : Int} {l : List Int} (h : mkR m) (hl : l.length <= 4) : mixPre m l = true := Qks.2 ⟨h, by omega⟩
theorem Qgn : ∀ (l : List MDec) (i : Nat) (m : Int), foldI (fun _ m (v : MDec) => mix (mix m v.1) v.2) i m l = markMore m l
 | [], i, m => rfl
 | v :: r, i, m => Qgn r (i + 1) _
theorem Qhj : ∀ (l : List MTst) (i : Nat) (m : Int), foldI (fun _ m t => markTst m t) i m l = markTsts m l
 | [], i, m => rfl
 | v :: r, i, m => Qhj r (i + 1) _
theorem Qhk : ∀ (l : List Bool) (i : Nat) (m : Int), foldI (fun i m d => markDev m i d) i m l = markDevs i m l
 | [], i, m => rfl
 | v :: r, i, m => Qhk r (i + 1) _
theorem s_d0 : C_d0 (fun x => smB x.1) (fun x => (batMark x.1, ())) := S_d0 s_cz fun x hx => by
 obtain ⟨b, u⟩ := x
 change MBat at b
 have hx : smB b = true := hx
 obtain ⟨h1, h2, h3, h4⟩ := Qbv.1 hx
 refine WithFuel.eq ?_
 show WithFuel (fun k => E_d0 (fun x => (mixes x.1 x.2.1, ())) (fun x => mixPre x.1 x.2.1) k (b, ())) _
 have ev := fun k => ev_d0 (g_cz := fun x => (mixes x.1 x.2.1, ())) (p_cz := fun x => mixPre x.1 x.2.1) k b
 have hp := fun (m : Int) (l : List Int) (h : mkR m) (hl : l.length <= 4) => Qr9 h hl
 simp only [ev, cl, hp _ _ one_r (show List.length [b.1] <= 4 from Nat.le_of_ble_eq_true rfl), cond_true]
 refine Qdz b.2.2.1 (fun _ m t => markTst m t) mkR (fun k i m => r_d0 (fun x => (mixes x.1 x.2.1, ())) (fun x => mixPre x.1 x.2.1) (b, ()) k pt0 (h0_d0 b m (List.length b.2.2.1 : Int) (i : Int))) _ (fun i s x hs => Qid hs) (mix 1 b.1) (mix_r one_r) (fun hr => ?_) (fun i t r m hd hi hm hk => ?_)
 ·rw [Qhj] at hr ⊢
  have hdev := Qdz (P := fun v => v = (batMark b, ())) b.2.2.2.2.2 (fun i m d => markDev m i d) mkR (fun k i m => r_d0 (fun x => (mixes x.1 x.2.1, ())) (fun x => mixPre x.1 x.2.1) (b, ()) k pt2 (h2_d0 b m (List.length b.2.2.2.2.2 : Int) (i : Int))) (fun i s x hs => Qie hs) (markTsts (mix 1 b.1) b.2.2.1) hr (fun hr => ?_) (fun i d r m hd hi hm hk => ?_)
  ·obtain ⟨k, hk⟩ := hdev
   refine ⟨k + 1, ?_⟩
   dsimp only
   rw [rd0_d0, lt_eq, Qaj (Nat.le_refl _)]
   exact hk
  ·rw [Qhk]
   refine Ql3 1 ?_
   dsimp only
   rw [rd2_d0, Qaj (Nat.le_refl _)]; rfl
  ·obtain ⟨k, v, hk, hv⟩ := hk
   refine ⟨k + 1, v, ?_, hv⟩
   dsimp only
   rw [rd2_d0, Qai hi, Qal hi, Qan (by omega), Qag hd]
   have g1 := hp m [((i + 1 : Nat) : Int)] hm (Nat.le_of_ble_eq_true rfl)
   have g2 := hp (mix m ((i + 1 : Nat) : Int)) [77] (mix_r hm) (Nat.le_of_ble_eq_true rfl)
   have g2' : mixPre (mixes m [((i + 1 : Nat) : Int)]) [77] = true := g2
   simp only [cl, g1, g2', cond_true]
   cases d
   ·exact hk
   ·exact hk
 ·have hmore := Qdz (P := fun v => v = (batMark b, ())) t.2.2.2.2 (fun _ m (v : MDec) => mix (mix m v.1) v.2) mkR (fun k j m => r_d0 (fun x => (mixes x.1 x.2.1, ())) (fun x => mixPre x.1 x.2.1) (b, ()) k pt7 (h1_d0 b m (List.length b.2.2.1 : Int) (i : Int) t.2.2.2.2 (List.length t.2.2.2.2 : Int) (j : Int))) (fun i s x hs => mix_r (mix_r hs)) (markHead m t) (Qhc hm) (fun hr => ?_) (fun j v r' m' hd' hj hm' hk' => ?_)
  ·obtain ⟨k, v, hk, hv⟩ := hmore
   refine ⟨k + 1, v, ?_, hv⟩
   dsimp only
   rw [rd0_d0, lt_eq, Qai hi, Qal hi, Qag hd]
   have g1 := hp m [t.2.1, t.2.2.1.1, t.2.2.1.2, t.2.2.2.1] hm (Nat.le_of_ble_eq_true rfl)
   simp only [cl, g1, cond_true]
   exact hk
  ·rw [Qgn]
   obtain ⟨k, v, hk, hv⟩ := hk
   refine ⟨k + 1, v, ?_, hv⟩
   dsimp only
   rw [rd1_d0, Qaj (Nat.le_refl _), Qan (i := i) (by omega)]
   exact hk
  ·obtain ⟨k, v', hk, hv⟩ := hk'
   refine ⟨k + 1, v', ?_, hv⟩
   have hlt : List.length t.2.2.2.2 <= 4294967296 := h2 t (Qce hd)
   dsimp only
   rw [rd1_d0, Qai hj, Qal hj, Qan (by omega), Qag hd']
   have g1 := hp m' [v.1, v.2] hm' (Nat.le_of_ble_eq_true rfl)
   simp only [cl, g1, cond_true]
   exact hk
theorem s_d1 : C_d1 (fun x => smB x.1) (fun x => (batSigned x.1 x.2.1 x.2.2.1, ())) := S_d1 s_d0 fun x hx => ⟨List.length x.1.2.2.2.2.1 + 1, (ev_d1 _ x.1 x.2.1 x.2.2.1).trans (by
 obtain ⟨b, role, but, u⟩ := x
 change MBat at b
 have hx : smB b = true := hx
 have h3 := (Qbv.1 hx).2.2.1
 simp only [cl, hx, cond_true]
 have := Qa9 (σ := Unit) b.2.2.2.2.1 (fun k i _ => r_d1 (fun x => (batMark x.1, ())) (fun x => smB x.1) (b, role, but, ()) k pt0 (h0_d1 b role but (batMark b) (List.length b.2.2.2.2.1 : Int) (i : Int))) (fun r i _ => (signedBy (batMark b) role but r, ())) (fun _ _ => True) (fun k s _ => by
  rw [rd0_d1, Qaj (Nat.le_refl _)]; rfl) (fun k i y r s hd hi _ => by
  rw [rd0_d1, Qai hi, Qal hi, Qan (by omega), Qag hd]
  have e : signedBy (batMark b) role but (y :: r) = bif decide (y.2.1 = role) && (decide (y.2.2 = batMark b) && !decide (y.1 = but)) then y.1 else signedBy (batMark b) role but r := rfl
  rw [e]
  cases decide (y.2.1 = role)
  ·exact .inr ⟨(), trivial, rfl, rfl⟩
  ·cases decide (y.2.2 = batMark b)
   ·exact .inr ⟨(), trivial, rfl, rfl⟩
   ·cases decide (y.1 = but)
    ·exact .inl rfl
    ·exact .inr ⟨(), trivial, rfl, rfl⟩) b.2.2.2.2.1.length 0 () (by omega) trivial
 rw [List.drop_zero] at this
 exact this)⟩
theorem s_d2 : C_d2 (fun x => smB x.2.2.1) (fun x => (decide (x.1.2.1 = 2) && (decide (x.1.2.2 = x.2.1) && decide (0 < batSigned x.2.2.1 3 x.1.1)), ())) := S_d2 s_d1 fun x hx => ⟨0, (ev_d2 0 x.1 x.2.1 x.2.2.1).trans (by
 have hx : smB x.2.2.1 = true := hx
 simp only [cl, hx, cond_true]
 have key : ∀ a b c : Bool, (bif a then (bif b then some (c, ()) else some (false, ())) else some (false, ())) = some (a && (b && c), ()) := by intro a b c; cases a <;> cases b <;> rfl
 exact key _ _ _)⟩
theorem s_d3 : C_d3 (fun x => decide (List.length x.1 <= 4294967296) && smB x.2.1.2.1) (fun x => (idxOf (fun s : MSig => decide (s.2.1 = 2) && (decide (s.2.2 = x.2.1.1) && decide (0 < batSigned x.2.1.2.1 3 s.1))) x.1 0, ())) := S_d3 s_d2 fun x hx => ⟨List.length x.1 + 1, (ev_d3 _ x.1 x.2.1).trans (by
 obtain ⟨hx, hb⟩ := Bool.and_eq_true_iff.1 hx
 have hx : List.length x.1 <= 4294967296 := of_decide_eq_true hx
 refine Qc6 (α := MSig) x.1 (fun s : MSig => decide (s.2.1 = 2) && (decide (s.2.2 = x.2.1.1) && decide (0 < batSigned x.2.1.2.1 3 s.1))) (fun k i => r_d3 (fun x => (decide (x.1.2.1 = 2) && (decide (x.1.2.2 = x.2.1) && decide (0 < batSigned x.2.2.1 3 x.1.1)), ())) (fun x => smB x.2.2.1) (x.1, x.2.1, ()) k pt1 (h0_d3 x.1 x.2.1 (List.length x.1 : Int) (i : Int))) (fun k => ?_) (fun k i y r hd hi => ?_)
 ·rw [rd0_d3, Qaj (Nat.le_refl _)]; rfl
 ·rw [rd0_d3, Qai hi, Qal hi, Qan (by omega), Qag hd]
  simp only [cl, hb, cond_true])⟩
theorem s_d4 : C_d4 (fun x => decide (List.length x.1 <= 4294967296) && smB x.2.1.2.1) (fun x => (List.any x.1 (fun s : MSig => decide (s.2.1 = 2) && (decide (s.2.2 = x.2.1.1) && decide (0 < batSigned x.2.1.2.1 3 s.1))), ())) := S_d4 s_d3 fun x hx => ⟨0, (ev_d4 0 x.1 x.2.1).trans (by
 have hx : (decide (List.length x.1 <= 4294967296) && smB x.2.1.2.1) = true := hx
 simp only [cl, hx, cond_true, Qc7])⟩
theorem s_d5 : C_d5 (fun x => smB x.1) (fun x => (gate x.1, ())) := S_d5 s_cw s_cy s_d0 s_d4 fun x hx => ⟨0, (ev_d5 0 x.1).trans (by
 have hx : smB x.1 = true := hx
 obtain ⟨h1, h2, h3, h4⟩ := Qbv.1 (show smB _ = true from hx)
 have h1 : decide (List.length x.1.2.2.1 <= 4294967296) = true := decide_eq_true h1
 have h3 : decide (List.length x.1.2.2.2.2.1 <= 4294967296) = true := decide_eq_true h3
 have h4 : decide (List.length x.1.2.2.2.2.2 <= 4294967296) = true := decide_eq_true h4
 simp only [cl, hx, h1, h3, h4, cond_true, Bool.and_self]
 unfold gate shutAll hands
 have e1 : (!(List.any x.1.2.2.1 fun d : MTst => !passed d)) = List.all x.1.2.2.1 passed := Qdl _ _
 have e2 : (!(List.any x.1.2.2.2.2.2 fun d : Bool => true == d)) = List.all x.1.2.2.2.2.2 (!·) := by
  rw [<- Qdl (fun d : Bool => !d)]
  congr 2
  funext d; cases d <;> rfl
 rw [<- e1, <- e2]
 cases (List.any x.1.2.2.1 fun d : MTst => !passed d) <;> cases (List.any x.1.2.2.2.2.2 fun d : Bool => true == d) <;> rfl)⟩
theorem s_d6 : C_d6 (fun x => smB x.1) (fun x => (batOk x.1, ())) := S_d6 s_iin s_cn s_ct s_d5 fun x hx => by
 obtain ⟨b, u⟩ := x
 change MBat at b
 have hx : smB b = true := hx
 obtain ⟨h1, h2, h3, h4⟩ := Qbv.1 (show smB _ = true from hx)
 have key : ∃ k, r_d6 (fun x => (inq x.1 x.2.1 x.2.2.1, ())) (fun x => (tstOk x.1, ())) (fun x => decide (List.length x.1.2.2.2.2 <= 4294967296)) (fun x => (List.any x.1 (fun d : MSig => !sigOk d), ())) (fun x => decide (List.length x.1 <= 4294967296)) (fun x => (gate x.1, ())) (fun x => smB x.1) (b, ()) k pt0 (h0_d6 b (List.length b.2.2.1 : Int) (0 : Int)) =
   some (riseL tstOk (fun t => t.1.1) none b.2.2.1 && (decide (b.2.2.2.2.1.length <= 6) && (b.2.2.2.2.1.all sigOk && (decide (b.2.2.2.2.2.length <= 3) && (!freed b.2.2.2.1 || gate b)))), ()) := by
  refine Ql4 tstOk (fun t : MTst => t.1.1) b.2.2.1 _ (fun k i => r_d6 (fun x => (inq x.1 x.2.1 x.2.2.1, ())) (fun x => (tstOk x.1, ())) (fun x => decide (List.length x.1.2.2.2.2 <= 4294967296)) (fun x => (List.any x.1 (fun d : MSig => !sigOk d), ())) (fun x => decide (List.length x.1 <= 4294967296)) (fun x => (gate x.1, ())) (fun x => smB x.1) (b, ()) k pt0 (h0_d6 b (List.length b.2.2.1 : Int) (i : Int))) (fun _ => ⟨1, ?_⟩) (fun k i t r hd hi => ?_)
  ·rw [rd0_d6, lt_eq, lt_eq, Qaj (Nat.le_refl _)]
   have h3' : decide (List.length b.2.2.2.2.1 <= 4294967296) = true := decide_eq_true h3
   simp only [cl, hx, h3', cond_true, cond_false]
   have e1 : (!(List.any b.2.2.2.2.1 fun d : MSig => !sigOk d)) = List.all b.2.2.2.2.1 sigOk := Qdl _ _
   rw [<- e1]
   have d1 : decide (b.2.2.2.2.1.length <= 6) = !decide ((6 : Int) < (List.length b.2.2.2.2.1 : Int)) := by
    by_cases h : b.2.2.2.2.1.length <= 6
    ·rw [decide_eq_true h, decide_eq_false (by omega)]; rfl
    ·rw [decide_eq_false h, decide_eq_true (by omega)]; rfl
   have d2 : decide (b.2.2.2.2.2.length <= 3) = !decide ((3 : Int) < (List.length b.2.2.2.2.2 : Int)) := by
    by_cases h : b.2.2.2.2.2.length <= 3
    ·rw [decide_eq_true h, decide_eq_false (by omega)]; rfl
    ·rw [decide_eq_false h, decide_eq_true (by omega)]; rfl
   rw [d1, d2]
   unfold freed
   cases decide ((6 : Int) < (List.length b.2.2.2.2.1 : Int))
   ·cases (List.any b.2.2.2.2.1 fun d : MSig => !sigOk d)
    ·cases decide ((3 : Int) < (List.length b.2.2.2.2.2 : Int))
     ·cases decide (b.2.2.2.1 = 2) <;> cases decide (b.2.2.2.1 = 4) <;> cases gate b <;> rfl
     ·rfl
    ·rfl
   ·rfl
  ·rw [rd0_d6, lt_eq, lt_eq, Qai hi, Qal hi, Qan (by omega)]
   have hp : decide (List.length (rdL (e := S_TstTest) b.2.2.1 (i : Int)).2.2.2.2 <= 4294967296) = true := by
    rw [Qag hd]; exact decide_eq_true (h2 t (Qce hd))
   simp only [cl, hp, cond_true]
   exact Ql5 tstOk (fun t : MTst => t.1.1) h1 hd hi _ (fun j => rdL (e := S_TstTest) b.2.2.1 j) (fun j hj => Qle j hj)
 obtain ⟨k, hk⟩ := key
 refine ⟨k, (ev_d6 k b).trans ?_⟩
 unfold batOk batOkA tstsOk
 simp only [hk]
 cases inq b.1 0 5
 ·rfl
 ·cases inq b.2.1 1 10000
  ·rfl
  ·cases inq (List.length b.2.2.1 : Int) 1 4
   ·rfl
   ·cases inq b.2.2.2.1 1 4
    ·rfl
    ·simp only [Bool.true_and, Bool.and_assoc]; rfl
end Go.Proofs.YtddpemilmeijfaaGreat

set_option linter.unusedVariables false
set_option linter.unusedSimpArgs false
namespace Go.Proofs.YtddpemilmeijfaaGreat
open Go.Vm
def one1 (w : ByteArray) : Bool := decide (w.data.toList.length = 1)
theorem kinds {k : Int} (h : inq k 1 12 = true) : k = 1 ∨ k = 2 ∨ k = 3 ∨ k = 4 ∨ k = 5 ∨ k = 6 ∨ k = 7 ∨ k = 8 ∨ k = 9 ∨ k = 10 ∨ k = 11 ∨ k = 12 := by
 have := Qar.1 h; omega
theorem Qbu (a b : MReq) : same a b = (same a.1 b.1 && (same a.2.1 b.2.1 && (same a.2.2.1 b.2.2.1 && (same a.2.2.2.1 b.2.2.2.1 && (same a.2.2.2.2.1 b.2.2.2.2.1 && (same a.2.2.2.2.2.1 b.2.2.2.2.2.1 && same a.2.2.2.2.2.2 b.2.2.2.2.2.2)))))) := by
 rw [show same a b = same (a.1, a.2.1, a.2.2.1, a.2.2.2.1, a.2.2.2.2.1, a.2.2.2.2.2.1, a.2.2.2.2.2.2) (b.1, b.2.1, b.2.2.1, b.2.2.2.1, b.2.2.2.2.1, b.2.2.2.2.2.1, b.2.2.2.2.2.2) from rfl, <- Qa8, <- Qa8, <- Qa8, <- Qa8, <- Qa8, <- Qa8]
def form8 (r : MReq) : MReq :=
 if r.2.1 = 1 then (r.1, r.2.1, 0, 0, 0, (0, 0), r.2.2.2.2.2.2) else if r.2.1 = 2 then (r.1, r.2.1, 0, 0, r.2.2.2.2.1, (0, 0), []) else if r.2.1 = 3 then (r.1, r.2.1, 0, 0, r.2.2.2.2.1, (0, 0), [])
 else if r.2.1 = 4 then (r.1, r.2.1, r.2.2.1, r.2.2.2.1, 0, r.2.2.2.2.2.1, []) else if r.2.1 = 6 then (r.1, r.2.1, r.2.2.1, r.2.2.2.1, 0, r.2.2.2.2.2.1, []) else if r.2.1 = 5 then (r.1, r.2.1, r.2.2.1, r.2.2.2.1, r.2.2.2.2.1, (0, 0), [])
 else if r.2.1 = 8 then (r.1, r.2.1, r.2.2.1, 0, r.2.2.2.2.1, (0, 0), []) else (r.1, r.2.1, r.2.2.1, 0, 0, (0, 0), [])
theorem Qat {α : Type} {p : Prop} [Decidable p] {a b c : α} (hb : p -> a = c) (hb2 : ¬ p -> b = c) : (bif decide p then a else b) = c := by
 by_cases h : p
 ·rw [decide_eq_true h]; exact hb h
 ·rw [decide_eq_false h]; exact hb2 h
theorem s_aa : C_aa (fun _ => true) (fun x => (form8 x.1, ())) := S_aa fun x _ => ⟨0, (ev_aa 0 x.1).trans (by
 unfold form8
 refine Qat (fun h => by rw [if_pos h]) fun h => ?_
 rw [if_neg h]
 refine Qat (fun h => by rw [if_pos h]) fun h => ?_
 rw [if_neg h]
 refine Qat (fun h => by rw [if_pos h]) fun h => ?_
 rw [if_neg h]
 refine Qat (fun h => by rw [if_pos h]) fun h => ?_
 rw [if_neg h]
 refine Qat (fun h => by rw [if_pos h]) fun h => ?_
 rw [if_neg h]
 refine Qat (fun h => by rw [if_pos h]) fun h => ?_
 rw [if_neg h]
 refine Qat (fun h => by rw [if_pos h]) fun h => ?_
 rw [if_neg h])⟩
theorem s_bn : C_bn (fun x => smA x.1.2.2.2.2.2.2) (fun x => (same x.1 x.2.1, ())) := S_bn fun x hx => by
 obtain ⟨a, b, u⟩ := x
 change MReq at a
 change MReq at b
 have hx : List.length a.2.2.2.2.2.2 <= 4294967296 := of_decide_eq_true hx
 have ev := fun k => ev_bn k a b
 show ∃ k, E_bn k (a, b, ()) = some (same a b, ())
 simp only [ev]
 rw [Qbu a b]
 by_cases hl : List.length a.2.2.2.2.2.2 = List.length b.2.2.2.2.2.2
 ·have el : (List.length a.2.2.2.2.2.2 : Int) = (List.length b.2.2.2.2.2.2 : Int) := by omega
  rw [decide_eq_true el]
  have hs : (same a.2.2.2.2.2.2 b.2.2.2.2.2.2 && (same a.1 b.1 && (same a.2.1 b.2.1 && (same a.2.2.1 b.2.2.1 && (same a.2.2.2.1 b.2.2.2.1 && (same a.2.2.2.2.1 b.2.2.2.2.1 && same a.2.2.2.2.2.1 b.2.2.2.2.2.1)))))) = (same a.1 b.1 && (same a.2.1 b.2.1 && (same a.2.2.1 b.2.2.1 && (same a.2.2.2.1 b.2.2.2.1 && (same a.2.2.2.2.1 b.2.2.2.2.1 && (same a.2.2.2.2.2.1 b.2.2.2.2.2.1 && same a.2.2.2.2.2.2 b.2.2.2.2.2.2)))))) := by
   cases same a.2.2.2.2.2.2 b.2.2.2.2.2.2 <;> simp
  rw [<- hs]
  exact Qhd (α := MAsk) a.2.2.2.2.2.2 b.2.2.2.2.2.2 hl (same a.1 b.1 && (same a.2.1 b.2.1 && (same a.2.2.1 b.2.2.1 && (same a.2.2.2.1 b.2.2.2.1 && (same a.2.2.2.2.1 b.2.2.2.2.1 && same a.2.2.2.2.2.1 b.2.2.2.2.2.1))))) (fun k i => r_bn (a, b, ()) k pt0 (h0_bn a b (i : Int))) ⟨1, by
    rw [rd0_bn, Qaj (Nat.le_refl _), Qis]
    simp only [Qcw]
    cases same a.1 b.1 <;> cases same a.2.1 b.2.1 <;> cases same a.2.2.1 b.2.2.1 <;> cases same a.2.2.2.1 b.2.2.2.1 <;> cases same a.2.2.2.2.1 b.2.2.2.2.1 <;> cases same a.2.2.2.2.2.1 b.2.2.2.2.2.1 <;> rfl⟩ (fun k i y z r r' hd hd' hi hi' => by
    rw [rd0_bn, Qai hi, Qai hi', Qal hi, Qan (by omega), Qag hd, Qag hd', Qo4]
    cases same y z <;> rfl)
 ·refine ⟨0, ?_⟩
  rw [decide_eq_false (by omega), Qhe hl]
  simp only [Bool.and_false]; rfl
theorem Qt9 (r : MReq) : same r (form8 r) = ((decide (r.2.2.1 = 0) || hasB r.2.1 || (!inq r.2.1 1 12)) && (decide (r.2.2.2.2.1 = 0) || hasN r.2.1) && (same r.2.2.2.2.2.1 (0, 0) || hasV r.2.1) && (decide (r.2.2.2.1 = 0) || hasT r.2.1) && (decide (r.2.1 = 1) || decide (r.2.2.2.2.2.2.length = 0))) := by
 obtain ⟨u, k, b, t, n, v, l⟩ := r
 have hl : same l [] = decide (l.length = 0) := by
  cases l with
  | nil => rw [Qaw]; rfl
  | cons a r => rw [Qcm (by simp)]; rfl
 have h0 : ∀ x : Int, same x 0 = decide (x = 0) := fun x => (Qcw x 0).symm
 show same ((u, k, b, t, n, v, l) : MReq) (form8 (u, k, b, t, n, v, l)) = ((decide (b = 0) || hasB k || (!inq k 1 12)) && (decide (n = 0) || hasN k) && (same v (0, 0) || hasV k) && (decide (t = 0) || hasT k) && (decide (k = 1) || decide (l.length = 0)))
 cases hk : inq k 1 12
 ·have h' : ¬ (1 <= k /\ k <= 12) := fun h2 => by rw [Qar.2 h2] at hk; cases hk
  have b2 : hasT k = false := by unfold hasT; refine Bool.eq_false_iff.2 fun h2 => ?_; have := Qar.1 h2; omega
  have b3 : hasN k = false := by unfold hasN; rw [decide_eq_false (by omega), decide_eq_false (by omega), decide_eq_false (by omega), decide_eq_false (by omega)]; rfl
  have b4 : hasV k = false := by unfold hasV; rw [decide_eq_false (by omega), decide_eq_false (by omega)]; rfl
  have e : form8 (u, k, b, t, n, v, l) = (u, k, b, 0, 0, (0, 0), []) := by
   unfold form8
   rw [if_neg (show ¬ k = 1 by omega), if_neg (show ¬ k = 2 by omega), if_neg (show ¬ k = 3 by omega), if_neg (show ¬ k = 4 by omega), if_neg (show ¬ k = 6 by omega), if_neg (show ¬ k = 5 by omega), if_neg (show ¬ k = 8 by omega)]
  rw [e, b2, b3, b4, decide_eq_false (show ¬ k = 1 by omega), Qbu]
  simp only [Qaw, h0, hl, Bool.true_and, Bool.not_false, Bool.or_true, Bool.or_false, Bool.false_or]
  cases decide (t = 0) <;> cases decide (n = 0) <;> cases same v (0, 0) <;> cases decide (l.length = 0) <;> rfl
 ·rcases kinds hk with rfl | rfl | rfl | rfl | rfl | rfl | rfl | rfl | rfl | rfl | rfl | rfl
  ·have e : form8 (u, 1, b, t, n, v, l) = (u, 1, 0, 0, 0, (0, 0), l) := rfl
   rw [e, Qbu]
   show (same u u && (same (1 : Int) 1 && (same b 0 && (same t 0 && (same n 0 && (same v (0, 0) && same l l)))))) = ((decide (b = 0) || false || (!true)) && (decide (n = 0) || false) && (same v (0, 0) || false) && (decide (t = 0) || false) && (true || decide (l.length = 0)))
   simp only [Qaw, h0, hl]
   cases decide (b = 0) <;> cases decide (t = 0) <;> cases decide (n = 0) <;> cases same v (0, 0) <;> cases decide (l.length = 0) <;> rfl
  ·have e : form8 (u, 2, b, t, n, v, l) = (u, 2, 0, 0, n, (0, 0), []) := rfl
   rw [e, Qbu]
   show (same u u && (same (2 : Int) 2 && (same b 0 && (same t 0 && (same n n && (same v (0, 0) && same l [])))))) = ((decide (b = 0) || false || (!true)) && (decide (n = 0) || true) && (same v (0, 0) || false) && (decide (t = 0) || false) && (false || decide (l.length = 0)))
   simp only [Qaw, h0, hl]
   cases decide (b = 0) <;> cases decide (t = 0) <;> cases decide (n = 0) <;> cases same v (0, 0) <;> cases decide (l.length = 0) <;> rfl
  ·have e : form8 (u, 3, b, t, n, v, l) = (u, 3, 0, 0, n, (0, 0), []) := rfl
   rw [e, Qbu]
   show (same u u && (same (3 : Int) 3 && (same b 0 && (same t 0 && (same n n && (same v (0, 0) && same l [])))))) = ((decide (b = 0) || false || (!true)) && (decide (n = 0) || true) && (same v (0, 0) || false) && (decide (t = 0) || false) && (false || decide (l.length = 0)))
   simp only [Qaw, h0, hl]
   cases decide (b = 0) <;> cases decide (t = 0) <;> cases decide (n = 0) <;> cases same v (0, 0) <;> cases decide (l.length = 0) <;> rfl
  ·have e : form8 (u, 4, b, t, n, v, l) = (u, 4, b, t, 0, v, []) := rfl
   rw [e, Qbu]
   show (same u u && (same (4 : Int) 4 && (same b b && (same t t && (same n 0 && (same v v && same l [])))))) = ((decide (b = 0) || true || (!true)) && (decide (n = 0) || false) && (same v (0, 0) || true) && (decide (t = 0) || true) && (false || decide (l.length = 0)))
   simp only [Qaw, h0, hl]
   cases decide (b = 0) <;> cases decide (t = 0) <;> cases decide (n = 0) <;> cases same v (0, 0) <;> cases decide (l.length = 0) <;> rfl
  ·have e : form8 (u, 5, b, t, n, v, l) = (u, 5, b, t, n, (0, 0), []) := rfl
   rw [e, Qbu]
   show (same u u && (same (5 : Int) 5 && (same b b && (same t t && (same n n && (same v (0, 0) && same l [])))))) = ((decide (b = 0) || true || (!true)) && (decide (n = 0) || true) && (same v (0, 0) || false) && (decide (t = 0) || true) && (false || decide (l.length = 0)))
   simp only [Qaw, h0, hl]
   cases decide (b = 0) <;> cases decide (t = 0) <;> cases decide (n = 0) <;> cases same v (0, 0) <;> cases decide (l.length = 0) <;> rfl
  ·have e : form8 (u, 6, b, t, n, v, l) = (u, 6, b, t, 0, v, []) := rfl
   rw [e, Qbu]
   show (same u u && (same (6 : Int) 6 && (same b b && (same t t && (same n 0 && (same v v && same l [])))))) = ((decide (b = 0) || true || (!true)) && (decide (n = 0) || false) && (same v (0, 0) || true) && (decide (t = 0) || true) && (false || decide (l.length = 0)))
   simp only [Qaw, h0, hl]
   cases decide (b = 0) <;> cases decide (t = 0) <;> cases decide (n = 0) <;> cases same v (0, 0) <;> cases decide (l.length = 0) <;> rfl
  ·have e : form8 (u, 7, b, t, n, v, l) = (u, 7, b, 0, 0, (0, 0), []) := rfl
   rw [e, Qbu]
   show (same u u && (same (7 : Int) 7 && (same b b && (same t 0 && (same n 0 && (same v (0, 0) && same l [])))))) = ((decide (b = 0) || true || (!true)) && (decide (n = 0) || false) && (same v (0, 0) || false) && (decide (t = 0) || false) && (false || decide (l.length = 0)))
   simp only [Qaw, h0, hl]
   cases decide (b = 0) <;> cases decide (t = 0) <;> cases decide (n = 0) <;> cases same v (0, 0) <;> cases decide (l.length = 0) <;> rfl
  ·have e : form8 (u, 8, b, t, n, v, l) = (u, 8, b, 0, n, (0, 0), []) := rfl
   rw [e, Qbu]
   show (same u u && (same (8 : Int) 8 && (same b b && (same t 0 && (same n n && (same v (0, 0) && same l [])))))) = ((decide (b = 0) || true || (!true)) && (decide (n = 0) || true) && (same v (0, 0) || false) && (decide (t = 0) || false) && (false || decide (l.length = 0)))
   simp only [Qaw, h0, hl]
   cases decide (b = 0) <;> cases decide (t = 0) <;> cases decide (n = 0) <;> cases same v (0, 0) <;> cases decide (l.length = 0) <;> rfl
  ·have e : form8 (u, 9, b, t, n, v, l) = (u, 9, b, 0, 0, (0, 0), []) := rfl
   rw [e, Qbu]
   show (same u u && (same (9 : Int) 9 && (same b b && (same t 0 && (same n 0 && (same v (0, 0) && same l [])))))) = ((decide (b = 0) || true || (!true)) && (decide (n = 0) || false) && (same v (0, 0) || false) && (decide (t = 0) || false) && (false || decide (l.length = 0)))
   simp only [Qaw, h0, hl]
   cases decide (b = 0) <;> cases decide (t = 0) <;> cases decide (n = 0) <;> cases same v (0, 0) <;> cases decide (l.length = 0) <;> rfl
  ·have e : form8 (u, 10, b, t, n, v, l) = (u, 10, b, 0, 0, (0, 0), []) := rfl
   rw [e, Qbu]
   show (same u u && (same (10 : Int) 10 && (same b b && (same t 0 && (same n 0 && (same v (0, 0) && same l [])))))) = ((decide (b = 0) || true || (!true)) && (decide (n = 0) || false) && (same v (0, 0) || false) && (decide (t = 0) || false) && (false || decide (l.length = 0)))
   simp only [Qaw, h0, hl]
   cases decide (b = 0) <;> cases decide (t = 0) <;> cases decide (n = 0) <;> cases same v (0, 0) <;> cases decide (l.length = 0) <;> rfl
  ·have e : form8 (u, 11, b, t, n, v, l) = (u, 11, b, 0, 0, (0, 0), []) := rfl
   rw [e, Qbu]
   show (same u u && (same (11 : Int) 11 && (same b b && (same t 0 && (same n 0 && (same v (0, 0) && same l [])))))) = ((decide (b = 0) || true || (!true)) && (decide (n = 0) || false) && (same v (0, 0) || false) && (decide (t = 0) || false) && (false || decide (l.length = 0)))
   simp only [Qaw, h0, hl]
   cases decide (b = 0) <;> cases decide (t = 0) <;> cases decide (n = 0) <;> cases same v (0, 0) <;> cases decide (l.length = 0) <;> rfl
  ·have e : form8 (u, 12, b, t, n, v, l) = (u, 12, b, 0, 0, (0, 0), []) := rfl
   rw [e, Qbu]
   show (same u u && (same (12 : Int) 12 && (same b b && (same t 0 && (same n 0 && (same v (0, 0) && same l [])))))) = ((decide (b = 0) || true || (!true)) && (decide (n = 0) || false) && (same v (0, 0) || false) && (decide (t = 0) || false) && (false || decide (l.length = 0)))
   simp only [Qaw, h0, hl]
   cases decide (b = 0) <;> cases decide (t = 0) <;> cases decide (n = 0) <;> cases same v (0, 0) <;> cases decide (l.length = 0) <;> rfl
theorem Qua (k : Int) : (decide (k = 4) || decide (k = 5) || decide (k = 6)) = hasT k := by
 unfold hasT
 rw [Bool.eq_iff_iff, Qar]
 simp only [Bool.or_eq_true, decide_eq_true_eq]
 omega
theorem Qub (us wd sm ib nn vv k4 k5 k6 e1 it : Bool) : ((bif (bif us then false else true) then (some (false, ())) else (bif (bif wd then false else true) then (some (false, ())) else (bif (bif sm then false else true) then (some (false, ())) else (bif (bif ib then false else true) then (some (false, ())) else (bif (bif nn then false else true) then (some (false, ())) else (bif (bif vv then false else true) then (some (false, ())) else (bif k4 then (bif e1 then (some ((true == it), ())) else (some (false, ()))) else (bif k5 then (bif e1 then (some ((true == it), ())) else (some (false, ()))) else (bif e1 then (some ((k6 == it), ())) else (some (false, ()))))))))))) : Option (Bool × Unit)) = some (us && (wd && (sm && (ib && (nn && (vv && (e1 && ((k4 || k5 || k6) == it))))))), ()) := by
 cases us <;> cases wd <;> cases sm <;> cases ib <;> cases nn <;> cases vv <;> first | rfl | (cases k4 <;> cases k5 <;> cases k6 <;> cases e1 <;> cases it <;> rfl)
theorem Quc (r : MReq) : (inq r.1 1 5 && (inq r.2.1 1 12 && (same r (form8 r) && (inq r.2.2.1 0 9 && (inq r.2.2.2.2.1 0 10000 && (decOk r.2.2.2.2.2.1 && ((decide (r.2.1 = 1) == testsOk r.2.2.2.2.2.2) && (hasT r.2.1 == inq r.2.2.2.1 1 4)))))))) = reqOk r := by
 rw [Qt9]
 unfold reqOk
 have hb : decide (r.2.2.1 = 0) = true -> inq r.2.2.1 0 9 = true := fun h => Qar.2 (by have := of_decide_eq_true h; omega)
 have hn : decide (r.2.2.2.2.1 = 0) = true -> inq r.2.2.2.2.1 0 10000 = true := fun h => Qar.2 (by have := of_decide_eq_true h; omega)
 have hv : same r.2.2.2.2.2.1 (0, 0) = true -> decOk r.2.2.2.2.2.1 = true := fun h => by rw [Qbm.1 h]; rfl
 have ht : decide (r.2.2.2.1 = 0) = true -> inq r.2.2.2.1 1 4 = false := fun h => Bool.eq_false_iff.2 fun h2 => by have := Qar.1 h2; have := of_decide_eq_true h; omega
 have hl : decide (r.2.2.2.2.2.2.length = 0) = true -> testsOk r.2.2.2.2.2.2 = false := fun h => Bool.eq_false_iff.2 fun h2 => by have := Qgg h2; have := of_decide_eq_true h; omega
 have g1 : ∀ b h i : Bool, (b = true -> i = true) -> (b || (h && i)) = ((b || h) && i) := by intro b h i hi; cases b <;> cases h <;> cases i <;> first | rfl | (have := hi rfl; cases this)
 have g2 : ∀ t h i : Bool, (t = true -> i = false) -> (bif h then i else t) = ((t || h) && (h == i)) := by intro t h i hi; cases t <;> cases h <;> cases i <;> first | rfl | (have := hi rfl; cases this)
 have g3 : ∀ k t l : Bool, (l = true -> t = false) -> (bif k then t else l) = ((k || l) && (k == t)) := by intro t h i hi; cases t <;> cases h <;> cases i <;> first | rfl | (have := hi rfl; cases this)
 rw [g1 _ _ _ hb, g1 _ _ _ hn, g1 _ _ _ hv, g2 _ _ _ ht, g3 _ _ _ hl]
 cases inq r.2.1 1 12
 ·simp
 ·simp only [Bool.not_true, Bool.or_false]
  generalize (decide (r.2.2.1 = 0) || hasB r.2.1) = a1
  generalize (decide (r.2.2.2.2.1 = 0) || hasN r.2.1) = a2
  generalize (same r.2.2.2.2.2.1 (0, 0) || hasV r.2.1) = a3
  generalize (decide (r.2.2.2.1 = 0) || hasT r.2.1) = a4
  generalize (decide (r.2.1 = 1) || decide (r.2.2.2.2.2.2.length = 0)) = a5
  generalize (decide (r.2.1 = 1) == testsOk r.2.2.2.2.2.2) = a6
  generalize (hasT r.2.1 == inq r.2.2.2.1 1 4) = a7
  ac_rfl
theorem s_bo : C_bo (fun x => smA x.1.2.2.2.2.2.2) (fun x => (reqOk x.1, ())) := S_bo s_a3 s_aa s_bn s_ab s_av fun x hx => ⟨0, (ev_bo 0 x.1).trans (by
 obtain ⟨r, u⟩ := x
 change MReq at r
 have hx : smA r.2.2.2.2.2.2 = true := hx
 rw [show reqOk (r, u).1 = reqOk r from rfl, <- Quc r, <- Qua]
 simp only [cl, hx, cond_true]
 exact Qub _ _ _ _ _ _ _ _ _ _ _)⟩
end Go.Proofs.YtddpemilmeijfaaGreat

set_option linter.unusedVariables false
set_option linter.unusedSimpArgs false
namespace Go.Proofs.YtddpemilmeijfaaGreat
open Go.Vm
theorem s_ah : C_ah (fun _ => true) (fun x => (mixW x.1 x.2.1, ())) := S_ah fun x _ => ⟨0, ev_ah 0 x.1 x.2.1⟩
theorem s_ai : C_ai (fun x => smB x.1) (fun x => (batMark x.1, ())) := S_ai s_ah fun x hx => by
 obtain ⟨b, u⟩ := x
 change MBat at b
 have hx : smB b = true := hx
 obtain ⟨h1, h2, h3, h4⟩ := Qbv.1 hx
 refine WithFuel.eq ?_
 show WithFuel (fun k => E_ai (fun x => (mixW x.1 x.2.1, ())) k (b, ())) _
 have ev := fun k => ev_ai (g_ah := fun x => (mixW x.1 x.2.1, ())) k b
 simp only [ev, Qdi one_r]
 refine Qdz b.2.2.1 (fun _ m t => markTst m t) mkR (fun k i m => r_ai (fun x => (mixW x.1 x.2.1, ())) (b, ()) k pt0 (h0_ai b m (i : Int))) _ (fun i s x hs => Qid hs) (mix 1 b.1) (mix_r one_r) (fun hr => ?_) (fun i t r m hd hi hm hk => ?_)
 ·rw [Qhj] at hr ⊢
  have hdev := Qdz (P := fun v => v = (batMark b, ())) b.2.2.2.2.2 (fun i m d => markDev m i d) mkR (fun k i m => r_ai (fun x => (mixW x.1 x.2.1, ())) (b, ()) k pt2 (h2_ai b m (i : Int))) (fun i s x hs => Qie hs) (markTsts (mix 1 b.1) b.2.2.1) hr (fun hr => ?_) (fun i d r m hd hi hm hk => ?_)
  ·obtain ⟨k, hk⟩ := hdev
   refine ⟨k + 1, ?_⟩
   dsimp only
   rw [rd0_ai, Qaj (Nat.le_refl _)]
   exact hk
  ·rw [Qhk]
   refine Ql3 1 ?_
   dsimp only
   rw [rd2_ai, Qaj (Nat.le_refl _)]; rfl
  ·obtain ⟨k, v, hk, hv⟩ := hk
   refine ⟨k + 1, v, ?_, hv⟩
   dsimp only
   rw [rd2_ai, Qai hi, Qal hi, Qan (by omega), Qag hd]
   simp only [Qdi hm, Qdi (mix_r hm), cond_true]
   cases d
   ·exact hk
   ·exact hk
 ·have hmore := Qdz (P := fun v => v = (batMark b, ())) t.2.2.2.2 (fun _ m (v : MDec) => mix (mix m v.1) v.2) mkR (fun k j m => r_ai (fun x => (mixW x.1 x.2.1, ())) (b, ()) k pt5 (h1_ai b m (i : Int) (j : Int) t)) (fun i s x hs => mix_r (mix_r hs)) (markHead m t) (Qhc hm) (fun hr => ?_) (fun j v r' m' hd' hj hm' hk' => ?_)
  ·obtain ⟨k, v, hk, hv⟩ := hmore
   refine ⟨k + 1, v, ?_, hv⟩
   dsimp only
   rw [rd0_ai, Qai hi, Qal hi, Qag hd]
   simp only [Qdi hm, Qdi (mix_r hm), Qdi (mix_r (mix_r hm)), Qdi (mix_r (mix_r (mix_r hm))), cond_true]
   exact hk
  ·rw [Qgn]
   obtain ⟨k, v, hk, hv⟩ := hk
   refine ⟨k + 1, v, ?_, hv⟩
   dsimp only
   rw [rd1_ai, Qaj (Nat.le_refl _), Qan (i := i) (by omega)]
   exact hk
  ·obtain ⟨k, v', hk, hv⟩ := hk'
   refine ⟨k + 1, v', ?_, hv⟩
   have hlt : List.length t.2.2.2.2 <= 4294967296 := h2 t (Qce hd)
   dsimp only
   rw [rd1_ai, Qai hj, Qal hj, Qan (i := j) (by omega), Qag hd']
   simp only [Qdi hm', Qdi (mix_r hm'), cond_true]
   exact hk
theorem s_aj : C_aj (fun x => smB x.1) (fun x => (batSigned x.1 x.2.1 x.2.2.1, ())) := S_aj s_ai fun x hx => ⟨List.length x.1.2.2.2.2.1 + 1, (ev_aj _ x.1 x.2.1 x.2.2.1).trans (by
 obtain ⟨b, role, but, u⟩ := x
 change MBat at b
 have hx : smB b = true := hx
 have h3 := (Qbv.1 hx).2.2.1
 have := Qa9 (σ := Unit) b.2.2.2.2.1 (fun k i _ => r_aj (fun x => (batMark x.1, ())) (fun x => smB x.1) (b, role, but, ()) k pt1 (h0_aj b role but (i : Int))) (fun r i _ => (signedBy (batMark b) role but r, ())) (fun _ _ => True) (fun k s _ => by
  rw [rd0_aj, Qaj (Nat.le_refl _)]; rfl) (fun k i y r s hd hi _ => by
  have h0i : decide ((0 : Int) <= (i : Int)) = true := decide_eq_true (by omega)
  rw [rd0_aj, Qan (by omega), Qag hd]
  simp only [cl, hx, h0i, Qal hi, cond_true]
  have e : signedBy (batMark b) role but (y :: r) = bif decide (y.2.1 = role) && (decide (y.2.2 = batMark b) && !decide (y.1 = but)) then y.1 else signedBy (batMark b) role but r := rfl
  rw [e]
  cases decide (y.2.1 = role)
  ·exact .inr ⟨(), trivial, rfl, rfl⟩
  ·cases decide (y.1 = but)
   ·cases decide (y.2.2 = batMark b)
    ·exact .inr ⟨(), trivial, rfl, rfl⟩
    ·exact .inl rfl
   ·cases decide (y.2.2 = batMark b)
    ·exact .inr ⟨(), trivial, rfl, rfl⟩
    ·exact .inr ⟨(), trivial, rfl, rfl⟩) b.2.2.2.2.1.length 0 () (by omega) trivial
 rw [List.drop_zero] at this
 exact this)⟩
theorem s_ak : C_ak (fun x => smB x.1 && sigsOk x.1) (fun x => (hands x.1, ())) := S_ak s_ai s_aj fun x hx => by
 obtain ⟨b, u⟩ := x
 change MBat at b
 obtain ⟨hx, hs⟩ := Bool.and_eq_true_iff.1 hx
 have hx : smB b = true := hx
 have hs : sigsOk b = true := hs
 have h3 := (Qbv.1 hx).2.2.1
 have go : ∀ (m : Nat) (u : Int), 1 <= u -> u + m = 6 -> ∃ k, r_ak (fun x => (batMark x.1, ())) (fun x => smB x.1) (fun x => (batSigned x.1 x.2.1 x.2.2.1, ())) (fun x => smB x.1) (b, ()) k pt1 (h0_ak b u) = some (b.2.2.2.2.1.any (fun s => decide (u <= s.1) && (decide (s.1 <= 5) && hand1 b s)), ()) := by
  intro m
  induction m with
  | zero =>
   intro u h1 h
   have : u = 6 := by omega
   subst this
   refine ⟨1, ?_⟩
   rw [rd0_ak, Qp4]; rfl
  | succ m ih =>
   intro u h1 h
   have hw : w64 (u + 1) = u + 1 := Qak (by omega) (by omega)
   obtain ⟨k, hk⟩ := ih (u + 1) (by omega) (by omega)
   obtain ⟨k, hk⟩ := Qrx (α := MSig) b.2.2.2.2.1 (fun s => decide (s.1 = u) && hand1 b s) _ (fun k i => r_ak (fun x => (batMark x.1, ())) (fun x => smB x.1) (fun x => (batSigned x.1 x.2.1 x.2.2.1, ())) (fun x => smB x.1) (b, ()) k pt3 (h1_ak b u (i : Int))) ⟨k + 1, by rw [rd1_ak, Qaj (Nat.le_refl _), hw]; exact hk⟩ (fun k i s r hd hi => by
    rw [rd1_ak, Qai hi, Qal hi, Qan (by omega), Qag hd]
    simp only [cl, hx, cond_true]
    unfold hand1
    by_cases e : s.1 = u
    ·subst e
     rw [decide_eq_true rfl]
     cases decide (s.2.1 = 2)
     ·rfl
     ·cases decide (s.2.2 = batMark b)
      ·rfl
      ·cases decide (0 < batSigned b 3 s.1) <;> rfl
    ·rw [decide_eq_false e]; rfl)
   refine ⟨k + 1, ?_⟩
   rw [rd0_ak, decide_eq_true (show u <= 5 by omega), <- Qp3 b (show u <= 5 by omega)]
   exact hk
 obtain ⟨k, hk⟩ := go 5 1 (Int.le_refl _) rfl
 exact ⟨k, (ev_ak k b).trans (by rw [hk, <- Qp2 hs])⟩
theorem s_ba : C_ba (fun x => smB x.1 && sigsOk x.1) (fun x => (gate x.1, ())) := S_ba s_ak fun x hx => by
 obtain ⟨b, u⟩ := x
 change MBat at b
 have hx : (smB b && sigsOk b) = true := hx
 obtain ⟨h1, h2, h3, h4⟩ := Qbv.1 (Bool.and_eq_true_iff.1 hx).1
 obtain ⟨k, hk⟩ := Qig (α := Bool) b.2.2.2.2.2 (!·) (hands b) (fun k i => r_ba (fun x => (hands x.1, ())) (fun x => smB x.1 && sigsOk x.1) (b, ()) k pt0 (h1_ba b (i : Int))) (fun _ => ⟨1, by
  rw [rd1_ba, Qaj (Nat.le_refl _), cl_eq hx]; rfl⟩) (fun k i d r hd hi => by
  rw [rd1_ba, Qai hi, Qal hi, Qan (by omega), Qag hd]
  cases d <;> rfl)
 obtain ⟨k, hk⟩ := Qig (α := MTst) b.2.2.1 passed _ (fun k i => r_ba (fun x => (hands x.1, ())) (fun x => smB x.1 && sigsOk x.1) (b, ()) k pt1 (h0_ba b (i : Int))) (fun _ => ⟨k + 1, by
  rw [rd0_ba, Qaj (Nat.le_refl _)]; exact hk⟩) (fun k i t r hd hi => by
  rw [rd0_ba, Qai hi, Qal hi, Qan (by omega), Qag hd]
  unfold passed
  cases decide (t.2.1 = 3) <;> rfl)
 refine ⟨k, (ev_ba k b).trans (hk.trans ?_)⟩
 unfold gate shutAll
 rw [Bool.and_assoc]
theorem s_bb : C_bb (fun x => smB x.1) (fun x => (batOk x.1, ())) := S_bb s_a3 s_b9 s_ba fun x hx => by
 obtain ⟨b, u⟩ := x
 change MBat at b
 have hx : smB b = true := hx
 obtain ⟨h1, h2, h3, h4⟩ := Qbv.1 hx
 have key : ∃ k, r_bb (fun x => (inq x.1 x.2.1 x.2.2.1, ())) (fun x => (tstOk x.1, ())) (fun x => (gate x.1, ())) (fun x => smB x.1 && sigsOk x.1) (b, ()) k pt0 (h0_bb b (0 : Int)) =
   some (riseL tstOk (fun t => t.1.1) none b.2.2.1 && (b.2.2.2.2.1.all sigOk && (!freed b.2.2.2.1 || gate b)), ()) := by
  refine Ql4 tstOk (fun t : MTst => t.1.1) b.2.2.1 _ (fun k i => r_bb (fun x => (inq x.1 x.2.1 x.2.2.1, ())) (fun x => (tstOk x.1, ())) (fun x => (gate x.1, ())) (fun x => smB x.1 && sigsOk x.1) (b, ()) k pt0 (h0_bb b (i : Int))) (fun _ => ?_) (fun k i t r hd hi => ?_)
  ·obtain ⟨k, hk⟩ := Qig (α := MSig) b.2.2.2.2.1 sigOk (!freed b.2.2.2.1 || gate b) (fun k i => r_bb (fun x => (inq x.1 x.2.1 x.2.2.1, ())) (fun x => (tstOk x.1, ())) (fun x => (gate x.1, ())) (fun x => smB x.1 && sigsOk x.1) (b, ()) k pt2 (h1_bb b (i : Int))) (fun hs => ⟨1, by
    have hp : (smB b && sigsOk b) = true := by rw [hx]; exact hs
    rw [rd1_bb, Qaj (Nat.le_refl _)]
    simp only [cl, hp, cond_true, cond_false]
    unfold freed
    cases decide (b.2.2.2.1 = 2) <;> cases decide (b.2.2.2.1 = 4) <;> rfl⟩) (fun k i s r hd hi => by
    rw [rd1_bb, Qai hi, Qal hi, Qan (by omega), Qag hd]
    unfold sigOk signs
    simp only [cond_true]
    cases inq s.1 1 5
    ·rfl
    ·cases decide (s.2.1 = 2)
     ·cases decide (s.2.1 = 3)
      ·rfl
      ·cases inq s.2.2 0 999982 <;> rfl
     ·cases inq s.2.2 0 999982 <;> rfl)
   exact ⟨k + 1, by rw [rd0_bb, Qaj (Nat.le_refl _)]; exact hk⟩
  ·rw [rd0_bb, Qai hi, Qal hi, Qan (by omega)]
   exact Ql5 tstOk (fun t : MTst => t.1.1) h1 hd hi _ (fun j => rdL (e := S_TstTest) b.2.2.1 j) (fun j hj => Qle j hj)
 obtain ⟨k, hk⟩ := key
 refine ⟨k, (ev_bb k b).trans ?_⟩
 have d1 : decide (b.2.2.2.2.1.length <= 6) = !decide ((6 : Int) < (List.length b.2.2.2.2.1 : Int)) := by
  by_cases h : b.2.2.2.2.1.length <= 6
  ·rw [decide_eq_true h, decide_eq_false (by omega)]; rfl
  ·rw [decide_eq_false h, decide_eq_true (by omega)]; rfl
 have d2 : decide (b.2.2.2.2.2.length <= 3) = !decide ((3 : Int) < (List.length b.2.2.2.2.2 : Int)) := by
  by_cases h : b.2.2.2.2.2.length <= 3
  ·rw [decide_eq_true h, decide_eq_false (by omega)]; rfl
  ·rw [decide_eq_false h, decide_eq_true (by omega)]; rfl
 show _ = some (batOk b, ())
 unfold batOk batOkA tstsOk
 rw [d1, d2]
 simp only [hk]
 cases inq b.1 0 5
 ·rfl
 ·cases inq b.2.1 1 10000
  ·rfl
  ·cases inq (List.length b.2.2.1 : Int) 1 4
   ·rfl
   ·cases inq b.2.2.2.1 1 4
    ·rfl
    ·cases decide ((6 : Int) < (List.length b.2.2.2.2.1 : Int))
     ·cases decide ((3 : Int) < (List.length b.2.2.2.2.2 : Int))
      ·simp only [Bool.true_and, Bool.and_true, Bool.and_assoc, Bool.not_false]; rfl
      ·simp only [Bool.true_and, Bool.and_true, Bool.and_false, Bool.false_and, Bool.not_true]; rfl
     ·simp only [Bool.true_and, Bool.and_true, Bool.and_false, Bool.false_and, Bool.not_true]; rfl
theorem s_ar : C_ar (fun x => smB x.1) (fun x => (x.1, ())) := S_ar s_aq fun x hx => ⟨List.length x.1.2.2.1 + 1, (ev_ar _ x.1).trans (by
 obtain ⟨b, u⟩ := x
 change MBat at b
 have hx : smB b = true := hx
 obtain ⟨h1, h2, h3, h4⟩ := Qbv.1 hx
 rw [Qaz (by show 0 + List.length b.2.2.2.2.1 <= _; omega), Qaz (by show 0 + List.length b.2.2.2.2.2 <= _; omega)]
 have := Qa9 (σ := List MTst) b.2.2.1 (fun f i out => r_ar (fun x => (x.1, ())) (fun x => smT x.1) (b, ()) f pt0 (h0_ar b (i : Int) (0 : Int) (0 : Int) (0 : Int) [] [] [] out (List.append [] b.2.2.2.2.1) (List.append [] b.2.2.2.2.2))) (fun r i out => ((b.1, b.2.1, out ++ r, b.2.2.2.1, b.2.2.2.2.1, b.2.2.2.2.2), ())) (fun i out => out.length = i) (fun f s hs => by
  rw [rd0_ar, Qaj (Nat.le_refl _), List.append_nil]; rfl) (fun f i y r s hd hi hs => by
  have hp : smT y = true := decide_eq_true (h2 y (Qce hd))
  refine .inr ⟨s ++ [y], by rw [List.length_append]; show s.length + 1 = i + 1; omega, ?_, by simp⟩
  rw [rd0_ar, Qai hi, Qal hi, Qan (by omega), Qag hd]
  simp only [cl, hp, cond_true]
  rw [Qaz (by show s.length + 1 <= _; omega)]; rfl) b.2.2.1.length 0 [] (by omega) rfl
 rw [List.drop_zero, List.nil_append] at this
 exact this)⟩
theorem s_dd : C_dd (fun x => decide (List.length x.1 <= 4294967296)) (fun x => (x.1, ())) := S_dd fun x hx => ⟨0, (ev_dd 0 x.1).trans (p_clone (α := MSig) x.1 (of_decide_eq_true hx))⟩
theorem s_de : C_de (fun x => decide (List.length x.1 <= 4294967296)) (fun x => (x.1, ())) := S_de fun x hx => ⟨0, (ev_de 0 x.1).trans (p_clone (α := Bool) x.1 (of_decide_eq_true hx))⟩
theorem s_df : C_df (fun x => smB x.1) (fun x => (x.1, ())) := S_df s_dc s_dd s_de fun x hx => ⟨List.length x.1.2.2.1 + 1, (ev_df _ x.1).trans (by
 obtain ⟨b, u⟩ := x
 change MBat at b
 have hx : smB b = true := hx
 obtain ⟨h1, h2, h3, h4⟩ := Qbv.1 hx
 have h3' : decide (List.length b.2.2.2.2.1 <= 4294967296) = true := decide_eq_true h3
 have h4' : decide (List.length b.2.2.2.2.2 <= 4294967296) = true := decide_eq_true h4
 have := Qa9 (σ := List MTst) b.2.2.1 (fun f i out => r_df (fun x => (x.1, ())) (fun x => smT x.1) (fun x => (x.1, ())) (fun x => decide (List.length x.1 <= 4294967296)) (fun x => (x.1, ())) (fun x => decide (List.length x.1 <= 4294967296)) (b, ()) f pt0 (h0_df b (List.length b.2.2.1 : Int) (i : Int) (0 : Int) (0 : Int) (0 : Int) [] [] [] out)) (fun r i out => ((b.1, b.2.1, out ++ r, b.2.2.2.1, b.2.2.2.2.1, b.2.2.2.2.2), ())) (fun i out => out.length = i) (fun f s hs => by
  rw [rd0_df, Qaj (Nat.le_refl _), List.append_nil]
  simp only [cl, h3', h4', cond_true, cond_false]) (fun f i y r s hd hi hs => by
  have hp : smT y = true := decide_eq_true (h2 y (Qce hd))
  refine .inr ⟨s ++ [y], by rw [List.length_append]; show s.length + 1 = i + 1; omega, ?_, by simp⟩
  rw [rd0_df, Qai hi, Qal hi, Qan (by omega), Qag hd]
  simp only [cl, hp, cond_true]
  rw [Qaz (by show s.length + 1 <= _; omega)]; rfl) b.2.2.1.length 0 [] (by omega) rfl
 rw [List.drop_zero, List.nil_append] at this
 exact this)⟩
def signB (b : MBat) (u r : Int) : Bool := inq u 1 5 && (signs r && !decide (b.2.2.2.2.1.length = 6))
def withSig (b : MBat) (s : MSig) : MBat := (b.1, b.2.1, b.2.2.1, b.2.2.2.1, b.2.2.2.2.1 ++ [s], b.2.2.2.2.2)
theorem Qsa (b : MBat) : decide ((List.length b.2.2.2.2.1 : Int) = (6 : Int)) = decide (b.2.2.2.2.1.length = 6) := by
 by_cases h : b.2.2.2.2.1.length = 6
 ·rw [decide_eq_true h, decide_eq_true (by omega)]
 ·rw [decide_eq_false h, decide_eq_false (by omega)]
theorem Qkv (b : MBat) (u r : Int) : batSign b u r = bif isOpen b && signB b u r then (withSig b (u, r, batMark b), true) else (b, false) := rfl
theorem s_dy : C_dy (fun x => decide (List.length x.1.2.2.2.2.1 <= 6) && smB x.2.2.2.1) (fun x => bif signB x.1 x.2.1 x.2.2.1 then (true, withSig x.1 (x.2.1, x.2.2.1, batMark x.2.2.2.1), ()) else (false, x.1, ())) := S_dy s_co s_cp s_d0 fun x hx => ⟨0, (ev_dy 0 x.1 x.2.1 x.2.2.1 x.2.2.2.1).trans (by
 obtain ⟨o, u, r, b, z⟩ := x
 change MBat at o
 change MBat at b
 obtain ⟨h1, h2⟩ := Bool.and_eq_true_iff.1 hx
 have h1 : List.length o.2.2.2.2.1 <= 6 := of_decide_eq_true h1
 have h2 : smB b = true := h2
 have hf : fitL o.2.2.2.2.1 [((u, (r, batMark b)) : MSig)] = true := Qaz (by show o.2.2.2.2.1.length + 1 <= _; omega)
 simp only [cl, h2, Qsa o, cond_true]
 unfold signB
 cases inq u 1 5
 ·rfl
 ·cases signs r
  ·rfl
  ·cases decide (o.2.2.2.2.1.length = 6)
   ·exact (congrArg (fun c => bif c then _ else none) hf).trans rfl
   ·rfl)⟩
theorem p_open {β : Type} (ok st : Bool) (A B : β) : (bif (bif ok then false else true) then B else (bif (bif st then false else true) then B else A)) = bif ok && st then A else B := by cases ok <;> cases st <;> rfl
theorem Qn0 {b : MBat} (h : isOpen b = true) : b.2.2.2.2.1.length <= 6 := (Qbf.1 (Qdj.1 h).1).1.2.2.2.2.2.1
theorem Qkw {b : MBat} (h : isOpen b = true) : b.2.2.2.2.2.length <= 3 := (Qbf.1 (Qdj.1 h).1).1.2.2.2.2.2.2.2
theorem s_dz : C_dz (fun x => smB x.1 && same x.2.1.2.2.1 x.1) (fun x => ((batSign x.1 x.2.1.1 x.2.1.2.1).1, (batSign x.1 x.2.1.1 x.2.1.2.1).2, ())) := S_dz s_df s_d6 s_dy fun x hx => ⟨0, (ev_dz 0 x.1 x.2.1).trans (by
 obtain ⟨b, ⟨u, r, b', z⟩, z2⟩ := x
 change MBat at b
 change MBat at b'
 obtain ⟨h1, h2⟩ := Bool.and_eq_true_iff.1 hx
 have h1 : smB b = true := h1
 have h2 : b' = b := Qbm.1 h2
 subst h2
 simp only [cl, h1, cond_true]
 rw [p_open]
 rw [Qkv]
 show (bif isOpen b' then _ else _) = _
 cases ho : isOpen b'
 ·rfl
 ·have h6 : decide (List.length b'.2.2.2.2.1 <= 6) = true := decide_eq_true (Qn0 ho)
  simp only [h6, Bool.and_self, Bool.true_and, cond_true]
  cases signB b' u r <;> rfl)⟩
theorem s_e0 : C_e0 (fun x => smB x.1) (fun x => ((batSign x.1 x.2.1 x.2.2.1).1, (batSign x.1 x.2.1 x.2.2.1).2, ())) := S_e0 s_dz fun x hx => ⟨0, (ev_e0 0 x.1 x.2.1 x.2.2.1).trans (cl_eq (by
 have hx : smB x.1 = true := hx
 show (smB x.1 && same x.1 x.1) = true
 rw [hx, Qaw]; rfl))⟩
theorem s_bi : C_bi (fun x => smB x.1) (fun x => ((batSign x.1 x.2.1 x.2.2.1).1, (batSign x.1 x.2.1 x.2.2.1).2, ())) := S_bi s_ar s_bb s_a3 s_ai fun x hx => ⟨0, (ev_bi 0 x.1 x.2.1 x.2.2.1).trans (by
 obtain ⟨b, u, r, z⟩ := x
 change MBat at b
 have hx : smB b = true := hx
 simp only [cl, hx, Qsa b, cond_true]
 rw [p_open]
 rw [Qkv]
 show (bif isOpen b then _ else _) = _
 cases ho : isOpen b
 ·rfl
 ·have h6 := Qn0 ho
  have hf : fitL b.2.2.2.2.1 [((u, (r, batMark b)) : MSig)] = true := Qaz (by show b.2.2.2.2.1.length + 1 <= _; omega)
  simp only [hf, cond_true, Bool.true_and]
  unfold signB signs
  cases inq u 1 5
  ·rfl
  ·cases decide (r = 2)
   ·cases decide (r = 3)
    ·rfl
    ·cases decide (b.2.2.2.2.1.length = 6) <;> rfl
   ·cases decide (b.2.2.2.2.1.length = 6) <;> rfl)⟩
theorem s_dx : C_dx (fun x => smB x.1) (fun x => ((batMove x.1 x.2.1).1, (batMove x.1 x.2.1).2, ())) := S_dx s_df s_d5 s_d6 fun x hx => ⟨0, (ev_dx 0 x.1 x.2.1).trans (by
 obtain ⟨b, s, z⟩ := x
 change MBat at b
 have hx : smB b = true := hx
 simp only [cl, hx, cond_true]
 show _ = some ((batMove b s).1, (batMove b s).2, ())
 unfold batMove
 cases decide (b.2.2.2.1 = 1) <;> cases decide (s = 3) <;> cases decide (s = 2) <;> cases gate b <;> cases decide (b.2.2.2.1 = 2) <;> cases decide (s = 4) <;> cases batOk b <;> rfl)⟩
theorem s_bj : C_bj (fun x => smB x.1) (fun x => ((batMove x.1 x.2.1).1, (batMove x.1 x.2.1).2, ())) := S_bj s_ar s_bb s_ba fun x hx => ⟨0, (ev_bj 0 x.1 x.2.1).trans (by
 obtain ⟨b, s, z⟩ := x
 change MBat at b
 have hx : smB b = true := hx
 simp only [cl, hx, cond_true]
 show _ = some ((batMove b s).1, (batMove b s).2, ())
 unfold batMove
 cases hb : batOk b
 ·rfl
 ·have hs : sigsOk b = true := (Qbf.1 hb).1.2.2.2.2.2.2.1
  simp only [hs, Bool.and_self, cond_true]
  cases decide (b.2.2.2.1 = 1) <;> cases decide (s = 3) <;> cases decide (s = 2) <;> cases gate b <;> cases decide (b.2.2.2.1 = 2) <;> cases decide (s = 4) <;> rfl)⟩
def devB (b : MBat) (k : Int) (o : Bool) : Bool := bif o then decide (k = b.2.2.2.2.2.length) && decide (k < 3) else inq k 0 ((b.2.2.2.2.2.length : Int) - 1) && b.2.2.2.2.2.getD k.toNat false
def withDev (b : MBat) (k : Int) (o : Bool) : MBat := (b.1, b.2.1, b.2.2.1, b.2.2.2.1, b.2.2.2.2.1, bif o then b.2.2.2.2.2 ++ [true] else b.2.2.2.2.2.set k.toNat false)
theorem Qmh (b : MBat) (k : Int) (o : Bool) : batDev b k o = bif isOpen b && devB b k o then (withDev b k o, true) else (b, false) := rfl
theorem Qsb {b : MBat} {k : Int} (h : inq k 0 ((b.2.2.2.2.2.length : Int) - 1) = true) : (bif (decide ((0 : Int) <= k)) then (decide (k < (List.length b.2.2.2.2.2 : Int))) else false) = true := by
 have := Qar.1 h
 rw [decide_eq_true this.1]
 exact decide_eq_true (by omega)
theorem Qsc {b : MBat} {k : Int} {A B : Option (Bool × MBat × Unit)} (hl : b.2.2.2.2.2.length <= 3) : (bif inq k 0 (w64 ((List.length b.2.2.2.2.2 : Int) - (1 : Int))) then (bif (bif (decide ((0 : Int) <= k)) then (decide (k < (List.length b.2.2.2.2.2 : Int))) else false) then (bif (rdL (e := Sh.bool) b.2.2.2.2.2 k) then (bif (bif (decide ((0 : Int) <= k)) then (decide (k < (List.length b.2.2.2.2.2 : Int))) else false) then A else none) else B) else none) else B) = bif inq k 0 ((b.2.2.2.2.2.length : Int) - 1) && b.2.2.2.2.2.getD k.toNat false then A else B := by
 rw [Qak (x := (List.length b.2.2.2.2.2 : Int) - 1) (by omega) (by omega)]
 cases h : inq k 0 ((b.2.2.2.2.2.length : Int) - 1)
 ·rfl
 ·rw [Qsb h]
  show (bif b.2.2.2.2.2.getD k.toNat false then A else B) = _
  rfl
theorem s_e1 : C_e1 (fun x => decide (List.length x.1.2.2.2.2.2 <= 3)) (fun x => bif devB x.1 x.2.2.1 x.2.1 then (true, withDev x.1 x.2.2.1 x.2.1, ()) else (false, x.1, ())) := S_e1 s_iin fun x hx => ⟨0, (ev_e1 0 x.1 x.2.1 x.2.2.1).trans (by
 obtain ⟨b, o, k, z⟩ := x
 change MBat at b
 have hl : List.length b.2.2.2.2.2 <= 3 := of_decide_eq_true hx
 have hf : fitL b.2.2.2.2.2 [true] = true := Qaz (by show b.2.2.2.2.2.length + 1 <= _; omega)
 simp only [hf, Qsc hl, cond_true]
 unfold devB withDev
 cases o
 ·simp only [cond_true, cond_false]
  cases (inq k 0 ((b.2.2.2.2.2.length : Int) - 1) && b.2.2.2.2.2.getD k.toNat false) <;> rfl
 ·cases decide (k = (List.length b.2.2.2.2.2 : Int)) <;> cases decide (k < 3) <;> rfl)⟩
theorem s_e2 : C_e2 (fun x => smB x.1) (fun x => ((batDev x.1 x.2.1.2.1 x.2.1.1).1, (batDev x.1 x.2.1.2.1 x.2.1.1).2, ())) := S_e2 s_df s_d6 s_e1 fun x hx => ⟨0, (ev_e2 0 x.1 x.2.1).trans (by
 obtain ⟨b, ⟨o, k, z⟩, z2⟩ := x
 change MBat at b
 have h1 : smB b = true := hx
 simp only [cl, h1, cond_true]
 rw [p_open]
 rw [Qmh]
 show (bif isOpen b then _ else _) = _
 cases ho : isOpen b
 ·rfl
 ·have h3 : decide (List.length b.2.2.2.2.2 <= 3) = true := decide_eq_true (Qkw ho)
  simp only [h3, Bool.true_and, cond_true]
  cases devB b k o <;> rfl)⟩
theorem s_e3 : C_e3 (fun x => smB x.1) (fun x => ((batDev x.1 x.2.1 x.2.2.1).1, (batDev x.1 x.2.1 x.2.2.1).2, ())) := S_e3 s_e2 fun x hx => ⟨0, (ev_e3 0 x.1 x.2.1 x.2.2.1).trans (cl_eq hx)⟩
theorem s_bh : C_bh (fun x => smB x.1) (fun x => ((batDev x.1 x.2.1 x.2.2.1).1, (batDev x.1 x.2.1 x.2.2.1).2, ())) := S_bh s_ar s_bb s_a3 fun x hx => ⟨0, (ev_bh 0 x.1 x.2.1 x.2.2.1).trans (by
 obtain ⟨b, k, o, z⟩ := x
 change MBat at b
 change Int at k
 have hx : smB b = true := hx
 simp only [cl, hx, cond_true]
 rw [p_open]
 rw [Qmh]
 show (bif isOpen b then _ else _) = _
 cases ho : isOpen b
 ·rfl
 ·have hl := Qkw ho
  have hf : fitL b.2.2.2.2.2 [true] = true := Qaz (by show b.2.2.2.2.2.length + 1 <= _; omega)
  simp only [hf, Bool.true_and, cond_true]
  rw [Qak (x := (List.length b.2.2.2.2.2 : Int) - 1) (by omega) (by omega)]
  unfold devB withDev
  cases o
  ·cases h : inq k 0 ((b.2.2.2.2.2.length : Int) - 1)
   ·rfl
   ·rw [Qsb h]
    have e : rdL (e := Sh.bool) b.2.2.2.2.2 k = b.2.2.2.2.2.getD k.toNat false := rfl
    rw [e]
    cases b.2.2.2.2.2.getD k.toNat false <;> rfl
  ·have e3 : decide (k = (List.length b.2.2.2.2.2 : Int)) = true -> decide ((List.length b.2.2.2.2.2 : Int) = 3) = !decide (k < 3) := fun h => by
    have h := of_decide_eq_true h
    by_cases h3 : k < 3
    ·rw [decide_eq_true h3, decide_eq_false (by omega)]; rfl
    ·rw [decide_eq_false h3, decide_eq_true (by omega)]; rfl
   cases hk : decide (k = (List.length b.2.2.2.2.2 : Int))
   ·rfl
   ·rw [e3 hk]
    cases decide (k < 3) <;> rfl)⟩
def withTst (b : MBat) (i : Int) (t : MTst) : MBat := (b.1, b.2.1, b.2.2.1.set i.toNat t, b.2.2.2.1, b.2.2.2.2.1, b.2.2.2.2.2)
noncomputable def turnAt (b : MBat) (n w : Int) (v : MDec) (c : Int) : MBat × Bool := bif decide (findT b.2.2.1 n < 0) then (b, false) else (withTst b (findT b.2.2.1 n) (tstTurn (b.2.2.1.getD (findT b.2.2.1 n).toNat t0) w v c).1, (tstTurn (b.2.2.1.getD (findT b.2.2.1 n).toNat t0) w v c).2)
theorem Qkx (b : MBat) (n w : Int) (v : MDec) (c : Int) : batTest b n w v c = bif isOpen b then turnAt b n w v c else (b, false) := by
 unfold batTest turnAt
 cases isOpen b
 ·rfl
 ·cases decide (findT b.2.2.1 n < 0) <;> rfl
theorem s_dg : C_dg (fun _ => true) (fun x => (decide (x.1.1.1 = x.2.1), ())) := S_dg fun x _ => ⟨0, ev_dg 0 x.1 x.2.1⟩
theorem s_dh : C_dh (fun x => decide (List.length x.1 <= 4294967296)) (fun x => (findT x.1 x.2.1.1, ())) := S_dh s_dg fun x hx => ⟨List.length x.1 + 1, (ev_dh _ x.1 x.2.1).trans (by
 have hx : List.length x.1 <= 4294967296 := of_decide_eq_true hx
 refine Qc6 (α := MTst) x.1 (fun t => decide (t.1.1 = x.2.1.1)) (fun k i => r_dh (fun x => (decide (x.1.1.1 = x.2.1), ())) (fun _ => true) (x.1, x.2.1, ()) k pt1 (h0_dh x.1 x.2.1 (List.length x.1 : Int) (i : Int))) (fun k => ?_) (fun k i y r hd hi => ?_)
 ·rw [rd0_dh, Qaj (Nat.le_refl _)]; rfl
 ·rw [rd0_dh, Qai hi, Qal hi, Qan (by omega), Qag hd]; rfl)⟩
theorem Qsd (b : MBat) {i : Int} (h : i.toNat < b.2.2.1.length) : withTst b i (b.2.2.1.getD i.toNat t0) = b := by
 unfold withTst
 have : b.2.2.1.set i.toNat (b.2.2.1.getD i.toNat t0) = b.2.2.1 := by
  refine Qfv ?_
  rw [List.getD_eq_getElem?_getD, List.getElem?_eq_getElem h]; rfl
 rw [this]
theorem Qti {b : MBat} {i : Int} (h1 : 0 <= i) (h2 : i < b.2.2.1.length) : b.2.2.1.getD i.toNat t0 ∈ b.2.2.1 := by
 have h : i.toNat < b.2.2.1.length := by omega
 rw [List.getD_eq_getElem?_getD, List.getElem?_eq_getElem h]
 exact List.getElem_mem h
theorem s_dr : C_dr (fun x => smB x.1) (fun x => ((turnAt x.1 x.2.1 x.2.2.1 x.2.2.2.1 x.2.2.2.2.1).2, (turnAt x.1 x.2.1 x.2.2.1 x.2.2.2.1 x.2.2.2.2.1).1, ())) := S_dr s_dh s_dk s_dn s_dq fun x hx => ⟨0, (ev_dr 0 x.1 x.2.1 x.2.2.1 x.2.2.2.1 x.2.2.2.2.1).trans (by
 obtain ⟨b, n, w, v, c, z⟩ := x
 change MBat at b
 have hx : smB b = true := hx
 obtain ⟨h1, h2, h3, h4⟩ := Qbv.1 hx
 have h1' : decide (List.length b.2.2.1 <= 4294967296) = true := decide_eq_true h1
 simp only [cl, lt_eq, h1', cond_true]
 show _ = some ((turnAt b n w v c).2, (turnAt b n w v c).1, ())
 unfold turnAt
 rcases Qel b.2.2.1 n with hf | ⟨hf1, hf2⟩
 ·rw [hf]; rfl
 ·have e : rdL (e := S_TstTest) b.2.2.1 (findT b.2.2.1 n) = b.2.2.1.getD (findT b.2.2.1 n).toNat t0 := rfl
  have hs : smT (b.2.2.1.getD (findT b.2.2.1 n).toNat t0) = true := decide_eq_true (h2 _ (Qti hf1 hf2))
  have hself := Qsd b (i := findT b.2.2.1 n) (by omega)
  rw [e, decide_eq_false (show ¬ findT b.2.2.1 n < 0 by omega), decide_eq_true hf1, decide_eq_true hf2]
  simp only [hs, cond_true, cond_false]
  unfold tstTurn
  refine Qat (fun h => by rw [if_pos h]; rfl) fun h => ?_
  rw [if_neg h]
  refine Qat (fun h => by rw [if_pos h]; rfl) fun h => ?_
  rw [if_neg h]
  refine Qat (fun h => by rw [if_pos h]; rfl) fun h => ?_
  rw [if_neg h, hself])⟩
theorem s_ds : C_ds (fun x => smB x.1) (fun x => ((batTest x.1 x.2.1.1 x.2.1.2.1 x.2.1.2.2.1 x.2.1.2.2.2.1).1, (batTest x.1 x.2.1.1 x.2.1.2.1 x.2.1.2.2.1 x.2.1.2.2.2.1).2, ())) := S_ds s_df s_d6 s_dr fun x hx => ⟨0, (ev_ds 0 x.1 x.2.1).trans (by
 obtain ⟨b, ⟨n, w, v, c, z⟩, z2⟩ := x
 change MBat at b
 have h1 : smB b = true := hx
 simp only [cl, h1, cond_true]
 rw [p_open]
 rw [Qkx]
 show (bif isOpen b then _ else _) = _
 cases ho : isOpen b <;> rfl)⟩
theorem s_dt : C_dt (fun x => smB x.1) (fun x => ((batTest x.1 x.2.1 x.2.2.1 x.2.2.2.1 x.2.2.2.2.1).1, (batTest x.1 x.2.1 x.2.2.1 x.2.2.2.1 x.2.2.2.2.1).2, ())) := S_dt s_ds fun x hx => ⟨0, (ev_dt 0 x.1 x.2.1 x.2.2.1 x.2.2.2.1 x.2.2.2.2.1).trans (cl_eq hx)⟩
theorem s_bf : C_bf (fun x => smT x.1) (fun x => ((tstTurn x.1 x.2.1 x.2.2.1 x.2.2.2.1).1, (tstTurn x.1 x.2.1 x.2.2.1 x.2.2.2.1).2, ())) := S_bf s_bc s_bd s_be s_aq fun x hx => ⟨0, (ev_bf 0 x.1 x.2.1 x.2.2.1 x.2.2.2.1).trans (by
 obtain ⟨t, w, v, c, z⟩ := x
 change MTst at t
 have hx : smT t = true := hx
 simp only [cl, hx, cond_true]
 show _ = some ((tstTurn t w v c).1, (tstTurn t w v c).2, ())
 unfold tstTurn
 refine Qat (fun h => by rw [if_pos h]) fun h => ?_
 rw [if_neg h]
 refine Qat (fun h => by rw [if_pos h]) fun h => ?_
 rw [if_neg h]
 refine Qat (fun h => by rw [if_pos h]) fun h => ?_
 rw [if_neg h])⟩
theorem s_bg : C_bg (fun x => smB x.1) (fun x => ((batTest x.1 x.2.1 x.2.2.1 x.2.2.2.1 x.2.2.2.2.1).1, (batTest x.1 x.2.1 x.2.2.1 x.2.2.2.1 x.2.2.2.2.1).2, ())) := S_bg s_ar s_bb s_bf fun x hx => ⟨List.length x.1.2.2.1 + 1, (ev_bg _ x.1 x.2.1 x.2.2.1 x.2.2.2.1 x.2.2.2.2.1).trans (by
 obtain ⟨b, n, w, v, c, z⟩ := x
 change MBat at b
 have hx : smB b = true := hx
 obtain ⟨h1, h2, h3, h4⟩ := Qbv.1 hx
 simp only [cl, hx, cond_true]
 rw [p_open]
 rw [Qkx]
 show (bif isOpen b then _ else _) = _
 cases ho : isOpen b
 ·rfl
 ·have := Qa9 (σ := Unit) b.2.2.1 (fun f i _ => r_bg (fun x => (x.1, ())) (fun x => smB x.1) (fun x => (batOk x.1, ())) (fun x => smB x.1) (fun x => ((tstTurn x.1 x.2.1 x.2.2.1 x.2.2.2.1).1, (tstTurn x.1 x.2.1 x.2.2.1 x.2.2.2.1).2, ())) (fun x => smT x.1) (b, n, w, v, c, ()) f pt2 (h0_bg b n w v c (i : Int) (0 : Int) (0 : Int) (0 : Int) [] [] [] b.1 b.2.1 b.2.2.2.1 b.2.2.1 b.2.2.2.2.1 b.2.2.2.2.2)) (fun r i _ => (fun j : Int => bif decide (j < 0) then ((b, false, ()) : MBat × Bool × Unit) else (withTst b j (tstTurn (b.2.2.1.getD j.toNat t0) w v c).1, (tstTurn (b.2.2.1.getD j.toNat t0) w v c).2, ())) (idxOf (fun t : MTst => decide (t.1.1 = n)) r i)) (fun _ _ => True) (fun f s _ => by
   rw [rd0_bg, Qaj (Nat.le_refl _)]; rfl) (fun f i t r s hd hi _ => by
   have hp : smT t = true := decide_eq_true (h2 t (Qce hd))
   have h0i : decide ((0 : Int) <= (i : Int)) = true := decide_eq_true (by omega)
   rw [rd0_bg, Qan (by omega), Qag hd]
   simp only [cl, hp, h0i, Qal hi, cond_true]
   have eg : b.2.2.1.getD ((i : Int)).toNat t0 = t := by
    have e : rdL (e := S_TstTest) b.2.2.1 (i : Int) = b.2.2.1.getD ((i : Int)).toNat t0 := rfl
    rw [<- e, Qag hd]
   have ei : idxOf (fun t : MTst => decide (t.1.1 = n)) (t :: r) i = bif decide (t.1.1 = n) then (i : Int) else idxOf (fun t : MTst => decide (t.1.1 = n)) r (i + 1) := rfl
   rw [ei]
   cases decide (t.1.1 = n)
   ·exact .inr ⟨(), trivial, rfl, rfl⟩
   ·refine .inl ?_
    simp only [cond_true]
    rw [decide_eq_false (show ¬ (i : Int) < 0 by omega), eg]; rfl) b.2.2.1.length 0 () (by omega) trivial
  rw [List.drop_zero] at this
  refine this.trans ?_
  unfold turnAt findT
  simp only [cond_true]
  cases decide (idxOf (fun t : MTst => decide (t.1.1 = n)) b.2.2.1 0 < 0) <;> rfl)⟩
end Go.Proofs.YtddpemilmeijfaaGreat

set_option linter.unusedVariables false
set_option linter.unusedSimpArgs false
namespace Go.Proofs.YtddpemilmeijfaaGreat
open Go.Vm
theorem s_as : C_as (fun x => houSm x.1) (fun x => (x.1, ())) := S_as s_ap s_ar fun x hx => ⟨List.length x.1.2.2 + 1, (ev_as _ x.1).trans (by
 obtain ⟨h, u⟩ := x
 change MHou at h
 obtain ⟨h1, h2, h3, h4⟩ := Qez.1 (show houSm h = true from hx)
 rw [Qaz (by show 0 + List.length h.1 <= _; omega)]
 simp only [cl, h2, cond_true]
 have := Qa9 (σ := List MBat) h.2.2 (fun f i out => r_as (fun x => (x.1, ())) (fun x => smS x.1) (fun x => (x.1, ())) (fun x => smB x.1) (h, ()) f pt0 (h0_as h (i : Int) [] [] [] (List.append [] h.1) h.2.1 out)) (fun r i out => ((h.1, h.2.1, out ++ r), ())) (fun i out => out.length = i) (fun f s hs => by
  rw [rd0_as, Qaj (Nat.le_refl _), List.append_nil]; rfl) (fun f i y r s hd hi hs => by
  have hp : smB y = true := h4 y (Qce hd)
  refine .inr ⟨s ++ [y], by rw [List.length_append]; show s.length + 1 = i + 1; omega, ?_, by simp⟩
  rw [rd0_as, Qai hi, Qal hi, Qan (by omega), Qag hd]
  simp only [cl, hp, cond_true]
  rw [Qaz (by show s.length + 1 <= _; omega)]; rfl) h.2.2.length 0 [] (by omega) rfl
 rw [List.drop_zero, List.nil_append] at this
 exact this)⟩
theorem s_am : C_am (fun _ => true) (fun x => (reqMay x.1 x.2.1, ())) := S_am fun x _ => ⟨0, (ev_am 0 x.1 x.2.1).trans (by
 obtain ⟨o, k, u⟩ := x
 change Int at o
 change Int at k
 have or2 : ∀ a b : Bool, (bif a then (some (true, ())) else (some (b, ())) : Option (Bool × Unit)) = some (a || b, ()) := by intro a b; cases a <;> rfl
 simp only [or2]
 show _ = some (reqMay o k, ())
 unfold reqMay
 refine Qat (fun h => by rw [if_pos h]) fun h1 => ?_
 rw [if_neg h1]
 refine Qat (fun h => by rw [if_pos h]) fun h2 => ?_
 rw [if_neg h2]
 refine Qat (fun h => by rw [if_pos h]) fun h3 => ?_
 rw [if_neg h3]
 refine Qat (fun h => by rw [if_pos h]) fun h4 => ?_
 rw [if_neg h4]
 refine Qat (fun (h : k = (6 : Int)) => by rw [if_neg (show ¬ k = (5 : Int) by omega), if_pos h]) fun h6 => ?_
 refine Qat (fun (h : k = (7 : Int)) => by rw [if_neg (show ¬ k = (5 : Int) by omega), if_neg h6, if_pos h]) fun h7 => ?_
 refine Qat (fun h => by rw [if_pos h]) fun h5 => ?_
 rw [if_neg h5, if_neg h6, if_neg h7]
 refine Qat (fun h => by rw [if_pos h]) fun h8 => ?_
 rw [if_neg h8]
 refine Qat (fun h => by rw [if_pos h]) fun h9 => ?_
 rw [if_neg h9]
 refine Qat (fun h => by rw [if_pos h]) fun h10 => ?_
 rw [if_neg h10]
 refine Qat (fun h => by rw [if_pos h]) fun h11 => ?_
 rw [if_neg h11]
 refine Qat (fun h => by rw [if_pos h]) fun h12 => ?_
 rw [if_neg h12])⟩
theorem s_a9 : C_a9 (fun x => decide (List.length x.1 <= 4294967296)) (fun x => (spcNow x.1, ())) := S_a9 fun x hx => ⟨List.length x.1 + 1, (ev_a9 _ x.1).trans (by
 have hx : List.length x.1 <= 4294967296 := of_decide_eq_true hx
 refine Qc6 (α := MSpc) x.1 (fun s => decide (s.2 = 2)) (fun k i => r_a9 (x.1, ()) k pt1 (h0_a9 x.1 (i : Int))) (fun k => ?_) (fun k i y r hd hi => ?_)
 ·rw [rd0_a9, Qaj (Nat.le_refl _)]; rfl
 ·rw [rd0_a9, Qai hi, Qal hi, Qan (by omega), Qag hd]; rfl)⟩
def hou4 (h : MHou) : Bool := houSm h && decide (h.2.2.length <= 4)
theorem Qhl {h : MHou} : hou4 h = true ↔ houSm h = true /\ h.2.2.length <= 4 := by unfold hou4; rw [Bool.and_eq_true, decide_eq_true_eq]
theorem Qud (h : MHou) : decide ((List.length h.2.2 : Int) = (4 : Int)) = decide (h.2.2.length = 4) := by
 by_cases h' : h.2.2.length = 4
 ·rw [decide_eq_true h', decide_eq_true (show (List.length h.2.2 : Int) = (4 : Int) by omega)]
 ·rw [decide_eq_false h', decide_eq_false (show ¬ (List.length h.2.2 : Int) = (4 : Int) by omega)]
theorem p_take {β : Type} (h : MHou) (n : Int) (hh : hou4 h = true) (mk : MHou × Int -> β) :
  (bif (decide (spcNow h.2.1 < (0 : Int))) then (some (mk (h, 4))) else (bif (decide ((List.length h.2.2 : Int) = (4 : Int))) then (some (mk (h, 6))) else (bif (decide (n = (0 : Int))) then (some (mk (h, 5))) else (bif (bif (decide ((0 : Int) <= spcNow h.2.1)) then (decide (spcNow h.2.1 < (List.length h.2.1 : Int))) else false) then (bif smA (rdL (e := S_SpcSpec) h.2.1 (spcNow h.2.1)).1 then (bif (fitL h.2.2 [batNew (spcNow h.2.1) (rdL (e := S_SpcSpec) h.2.1 (spcNow h.2.1)).1 n]) then (some (mk ((h.1, h.2.1, (List.append h.2.2 [batNew (spcNow h.2.1) (rdL (e := S_SpcSpec) h.2.1 (spcNow h.2.1)).1 n])), 1))) else none) else none) else none)))) = some (mk (houTakeN h n)) := by
 obtain ⟨h0, h4⟩ := Qhl.1 hh
 obtain ⟨_, h2, _, _⟩ := Qez.1 h0
 unfold houTakeN
 rw [Qud]
 refine Qat (fun h => by rw [if_pos h]) fun g1 => ?_
 rw [if_neg g1]
 refine Qat (fun h => by rw [if_pos h]) fun g2 => ?_
 rw [if_neg g2]
 refine Qat (fun h => by rw [if_pos h]) fun g3 => ?_
 rw [if_neg g3]
 have hr := (Qii h.2.1).resolve_left (by omega)
 have e : rdL (e := S_SpcSpec) h.2.1 (spcNow h.2.1) = h.2.1.getD (spcNow h.2.1).toNat spc0 := rfl
 have hs : smA (h.2.1.getD (spcNow h.2.1).toNat spc0).1 = true := decide_eq_true ((Qee.1 h2).2 _ (Qnn hr.1 hr.2))
 rw [e, decide_eq_true hr.1, decide_eq_true hr.2, hs, Qaz (by show h.2.2.length + 1 <= _; omega)]; rfl
theorem s_b2 : C_b2 (fun x => hou4 x.1) (fun x => ((houTakeN x.1 x.2.1.2.2.2.2.1).1, (houTakeN x.1 x.2.1.2.2.2.2.1).2, ())) := S_b2 s_a9 s_b1 fun x hx => ⟨0, (ev_b2 0 x.1 x.2.1).trans (by
 obtain ⟨h, r, u⟩ := x
 change MHou at h
 change MReq at r
 have hx : hou4 h = true := hx
 have hl : decide (List.length h.2.1 <= 4294967296) = true := decide_eq_true (Qee.1 (Qez.1 (Qhl.1 hx).1).2.1).1
 simp only [cl, hl, cond_true]
 exact p_take h r.2.2.2.2.1 hx (fun p => (p.1, p.2, ())))⟩
theorem s_az : C_az (fun x => smS x.1.2.1 && smA x.2.1.2.2.2.2.2.2) (fun x => if x.2.1.2.1 = 1 then ((x.1.1, (spcAdd x.1.2.1 x.2.1.2.2.2.2.2.2).1, x.1.2.2), ans (spcAdd x.1.2.1 x.2.1.2.2.2.2.2.2).2 6, ()) else if (x.1.2.1.length : Int) <= x.2.1.2.2.2.2.1 then (x.1, 4, ()) else ((x.1.1, (spcRaise x.1.2.1 x.2.1.2.2.2.2.1).1, x.1.2.2), ans (spcRaise x.1.2.1 x.2.1.2.2.2.2.1).2 5, ())) := S_az s_ax s_ay fun x hx => ⟨0, (ev_az 0 x.1 x.2.1).trans (by
 obtain ⟨h, r, u⟩ := x
 change MHou at h
 change MReq at r
 have hx : (smS h.2.1 && smA r.2.2.2.2.2.2) = true := hx
 obtain ⟨hs, ha⟩ := Bool.and_eq_true_iff.1 hx
 simp only [cl, hs, ha, Bool.and_self, cond_true]
 refine Qat (fun h1 => by
  rw [if_pos h1]
  cases hc : (spcAdd h.2.1 r.2.2.2.2.2.2).2
  ·rw [Ql8 hc]; rfl
  ·rfl) fun h1 => ?_
 rw [if_neg h1]
 refine Qat (fun h2 => by rw [if_pos h2]) fun h2 => ?_
 rw [if_neg h2]
 cases hc : (spcRaise h.2.1 r.2.2.2.2.1).2
 ·rw [Qjb hc]; rfl
 ·rfl)⟩
theorem s_bk : C_bk (fun x => smB x.1) (fun x => ((batTurn x.1 x.2.1 x.2.2.1).1, (batTurn x.1 x.2.1 x.2.2.1).2, ())) := S_bk s_bg s_bh s_bi s_bj fun x hx => ⟨0, (ev_bk 0 x.1 x.2.1 x.2.2.1).trans (by
 obtain ⟨b, r, o, u⟩ := x
 change MBat at b
 change MReq at r
 have hx : smB b = true := hx
 simp only [cl, hx, cond_true]
 show _ = some ((batTurn b r o).1, (batTurn b r o).2, ())
 unfold batTurn
 refine Qat (fun h => by rw [if_pos h]) fun (c4 : ¬ r.2.1 = (4 : Int)) => ?_
 rw [if_neg c4]
 refine Qat (fun h => by rw [if_pos h]) fun (c5 : ¬ r.2.1 = (5 : Int)) => ?_
 rw [if_neg c5]
 refine Qat (fun h => by rw [if_pos h]) fun (c6 : ¬ r.2.1 = (6 : Int)) => ?_
 rw [if_neg c6]
 refine Qat (fun h => by rw [if_pos h]) fun (c7 : ¬ r.2.1 = (7 : Int)) => ?_
 rw [if_neg c7]
 refine Qat (fun h => by rw [if_pos h]) fun (c8 : ¬ r.2.1 = (8 : Int)) => ?_
 rw [if_neg c8]
 refine Qat (fun h => by rw [if_pos h]) fun (c9 : ¬ r.2.1 = (9 : Int)) => ?_
 rw [if_neg c9]
 refine Qat (fun h => by rw [if_pos h]) fun (c10 : ¬ r.2.1 = (10 : Int)) => ?_
 rw [if_neg c10]
 refine Qat (fun h => by rw [if_pos h]) fun (c11 : ¬ r.2.1 = (11 : Int)) => ?_
 rw [if_neg c11])⟩
theorem Qtj {h : MHou} {r : MReq} (hu : 1 <= r.1) (hr : h.1.length <= 4294967296) (hl : ¬ (List.length h.1 : Int) < r.1) : w64 (r.1 - 1) = r.1 - 1 /\ (bif (decide ((0 : Int) <= r.1 - 1)) then (decide (r.1 - 1 < (List.length h.1 : Int))) else false) = true /\ rdL (e := I) h.1 (r.1 - 1) = roleOf h r := by
 refine ⟨Qak (by omega) (by omega), ?_, rfl⟩
 rw [decide_eq_true (show (0 : Int) <= r.1 - 1 by omega)]
 exact decide_eq_true (by omega)
def goPre (h : MHou) (r : MReq) : Bool := hou4 h && (smA r.2.2.2.2.2.2 && (decide (1 <= r.1) && decide (0 <= r.2.2.1)))
theorem Qmi {h : MHou} {r : MReq} : goPre h r = true ↔ hou4 h = true /\ smA r.2.2.2.2.2.2 = true /\ 1 <= r.1 /\ 0 <= r.2.2.1 := by
 unfold goPre; simp only [Bool.and_eq_true, decide_eq_true_eq]
theorem s_bl : C_bl (fun x => goPre x.1 x.2.1) (fun x => ((houGo x.1 x.2.1).1, (houGo x.1 x.2.1).2, ())) := S_bl s_am s_az s_b2 s_bk fun x hx => ⟨0, (ev_bl 0 x.1 x.2.1).trans (by
 obtain ⟨h, r, u⟩ := x
 change MHou at h
 change MReq at r
 obtain ⟨h1, h2, h3, h4⟩ := Qmi.1 (show goPre h r = true from hx)
 have h0 : houSm h = true := (Qhl.1 h1).1
 obtain ⟨g1, g2, g3, g4⟩ := Qez.1 h0
 show _ = some ((houGo h r).1, (houGo h r).2, ())
 rw [lt_eq, lt_eq]
 unfold houGo houMay
 by_cases hl : (List.length h.1 : Int) < r.1
 ·rw [decide_eq_true hl, decide_eq_false (show ¬ r.1 <= (h.1.length : Int) by omega)]; rfl
 ·obtain ⟨e1, e2, e3⟩ := Qtj h3 g1 hl
  rw [e1, e2, e3, decide_eq_false hl, decide_eq_true (show r.1 <= (h.1.length : Int) by omega)]
  cases hm : reqMay (roleOf h r) r.2.1
  ·simp only [hm]; rfl
  ·simp only [hm, cl, h1, h2, g2, cond_true, cond_false, Bool.and_self, Bool.true_and]
   refine Qat (fun hc => by rw [if_pos hc, if_pos hc]) fun (c1 : ¬ r.2.1 = (1 : Int)) => ?_
   rw [if_neg c1, if_neg c1]
   refine Qat (fun hc => by
    rw [if_pos hc]
    split <;> rfl) fun (c2 : ¬ r.2.1 = (2 : Int)) => ?_
   rw [if_neg c2]
   refine Qat (fun hc => by rw [if_pos hc]; rfl) fun (c3 : ¬ r.2.1 = (3 : Int)) => ?_
   rw [if_neg c3]
   unfold houTurn
   refine Qat (fun hc => by rw [if_pos hc]) fun c4 => ?_
   rw [if_neg c4, decide_eq_true h4, decide_eq_true (show r.2.2.1 < (List.length h.2.2 : Int) by omega)]
   have eb : rdL (e := S_BatBatch) h.2.2 r.2.2.1 = h.2.2.getD r.2.2.1.toNat batNone := rfl
   have hb : smB (h.2.2.getD r.2.2.1.toNat batNone) = true := g4 _ (Qjy h4 (by omega))
   rw [eb]
   simp only [hb, cond_true]
   cases ht : (batTurn (h.2.2.getD r.2.2.1.toNat batNone) r (roleOf h r)).2
   ·have hs := Qt2 (l := h.2.2) (i := r.2.2.1) (by omega) (Qp7 ht)
    rw [hs]; rfl
   ·rfl)⟩
end Go.Proofs.YtddpemilmeijfaaGreat

set_option linter.unusedVariables false
set_option linter.unusedSimpArgs false
namespace Go.Proofs.YtddpemilmeijfaaGreat
open Go.Vm
theorem s_a4 : C_a4 (fun x => decide (List.length x.1 <= 4294967296)) (fun x => (houNew x.1, ())) := S_a4 s_a3 fun x hx => by
 obtain ⟨l, u⟩ := x
 change List Int at l
 have hx : List.length l <= 4294967296 := of_decide_eq_true hx
 have hz : fitL ([] : List Int) l = true := Qaz (by show 0 + l.length <= _; omega)
 have hloop : ∃ k, r_a4 (fun x => (inq x.1 x.2.1 x.2.2.1, ())) (l, ()) k pt0 (h0_a4 l ((0 : Nat) : Int) [] [] []) = some ((bif l.all (inq · 1 4) then (l, [], []) else hou0), ()) := by
  have := Qr1 l (fun o => inq o 1 4) ((l, [], []), ()) (hou0, ()) (fun k i => r_a4 (fun x => (inq x.1 x.2.1 x.2.2.1, ())) (l, ()) k pt0 (h0_a4 l (i : Int) [] [] [])) (fun _ => ⟨1, by
   rw [rd0_a4, Qaj (Nat.le_refl _), hz]; rfl⟩) (fun k i y r hd hi => by
   rw [rd0_a4, Qai hi, Qal hi, Qan (by omega), Qag hd]
   dsimp only
   cases inq y 1 4 <;> rfl)
  obtain ⟨k, hk⟩ := this
  refine ⟨k, hk.trans ?_⟩
  cases l.all (inq · 1 4) <;> rfl
 obtain ⟨k, hk⟩ := hloop
 refine ⟨k, (ev_a4 k l).trans ?_⟩
 dsimp only
 unfold houNew rolesOk
 cases inq (l.length : Int) 1 5
 ·rfl
 ·exact hk
end Go.Proofs.YtddpemilmeijfaaGreat

set_option linter.unusedVariables false
set_option linter.unusedSimpArgs false
namespace Go.Proofs.YtddpemilmeijfaaGreat
open Go.Vm
theorem s_bm : C_bm (fun x => smA x.1.2.2.2.2.2.2) (fun x => (x.1, ())) := S_bm fun x hx => ⟨0, (ev_bm 0 x.1).trans (by
 have hx : List.length x.1.2.2.2.2.2.2 <= 4294967296 := of_decide_eq_true hx
 rw [Qaz (by show 0 + List.length x.1.2.2.2.2.2.2 <= _; omega)]; rfl)⟩
theorem Qgo : ∃ fn : In_bp -> Out_bp, ∀ x, (fun x : In_bp => decide (x.2.1 <= 20)) x = true -> (∃ k, E_bp k x = some (fn x)) /\ (fun (x : In_bp) (v : Out_bp) => ByteArray.size v.1 <= 60) x (fn x) := by
 refine Qax (fun k x => E_bp k x) (fun x : In_bp => decide (x.2.1 <= 20)) (fun (x : In_bp) (v : Out_bp) => ByteArray.size v.1 <= 60) (ByteArray.mk (Array.mk []), ()) fun x hx => ?_
 have h10 : (bif (decide ((10 : Int) = (0 : Int))) then false else true) = true := rfl
 have D : DigF x.2.1 (fun h => bytesStr [(IntKind.wrap IntKind.u8 (w64 ((48 : Int) + (Int.tmod h (10 : Int)))))]) (fun k h s => r_bp (x.1, x.2.1, ()) k pt4 (h0_bp x.1 x.2.1 h s)) := ⟨of_decide_eq_true hx, fun _ => rfl, fun k h s hc hf => by
  try dsimp only at hf ⊢
  rw [rd0_bp]
  by_cases hp : 0 < h
  ·rw [decide_eq_true hp, h10, hf]; rfl
  ·rw [decide_eq_false hp, decide_eq_true (hc.resolve_left hp), h10, hf]; rfl, fun k h s h1 h2 => by
  try dsimp only
  rw [rd0_bp, decide_eq_false (show ¬ 0 < h by omega), decide_eq_false (show ¬ ((ByteArray.size s : Nat) : Int) < x.2.1 by omega)]; rfl⟩
 obtain ⟨k, hk⟩ := D.all x.1 (ByteArray.mk (Array.mk [])) rfl
 refine ⟨k, ?_⟩
 show Gets (E_bp k (x.1, x.2.1, ())) _
 rw [ev_bp]
 exact hk
noncomputable def Qa4 := Classical.choose Qgo
theorem Qoj (x : In_bp) (hx : (fun x : In_bp => decide (x.2.1 <= 20)) x = true) : (fun (x : In_bp) (v : Out_bp) => ByteArray.size v.1 <= 60) x (Qa4 x) := (Classical.choose_spec Qgo x hx).2
theorem s_bp : C_bp (fun x => decide (x.2.1 <= 20)) Qa4 := S_bp  fun x hx => (Classical.choose_spec Qgo x hx).1
theorem Qok (a : Int × Int × Unit) (h : (fun a : Int × Int × Unit => decide (a.2.1 <= 20)) a = true) : ByteArray.size (Qa4 a).1 <= 60 := Qoj a h
theorem Qn1 {n w : Int} {b : Bool} {β : Type} {F : ByteArray × Unit -> Option β} {P : β -> Prop} (hw : decide (w <= 20) = true) (k : ∀ y, ByteArray.size y <= 60 -> Gets (F (y, ())) P) (hb : b = true) : Gets (cl b (Qa4 (n, w, ())) F) P :=
 Qah hb (k _ (Qok (n, w, ()) hw))
theorem Qgc {n : Int} {b : Bool} {β : Type} {F : ByteArray × Unit -> Option β} {P : β -> Prop} (k : ∀ y, ByteArray.size y <= 60 -> Gets (F (y, ())) P) (hb : b = true) : Gets (cl b (Qa4 (n, (1 : Int), ())) F) P := Qn1 (by decide) k hb
theorem Qhm : ∃ fn : In_br -> Out_br, ∀ x, (fun x : In_br => true) x = true -> (∃ k, E_br (fun x => (decOk x.1, ())) (fun x => (pw x.1, ())) (fun x => decide (x.1 <= 18)) Qa4 (fun x => decide (x.2.1 <= 20)) k x = some (fn x)) /\ (fun (x : In_br) (v : Out_br) => ByteArray.size v.1 <= 200) x (fn x) := by
 refine Qax (fun k x => E_br (fun x => (decOk x.1, ())) (fun x => (pw x.1, ())) (fun x => decide (x.1 <= 18)) Qa4 (fun x => decide (x.2.1 <= 20)) k x) (fun x : In_br => true) (fun (x : In_br) (v : Out_br) => ByteArray.size v.1 <= 200) (ByteArray.mk (Array.mk []), ()) fun x hx => ?_
 have key : ∀ a : MDec, Gets (E_br (fun x => (decOk x.1, ())) (fun x => (pw x.1, ())) (fun x => decide (x.1 <= 18)) Qa4 (fun x => decide (x.2.1 <= 20)) 0 (a, ())) (fun v => ByteArray.size v.1 <= 200) := by
  intro a
  rw [ev_br 0 a]
  refine Qbr (Qbr ?_)
  refine Qae (fun _ => Qac (by decide)) fun hok => ?_
  have hk : decOk a = true := by
   revert hok
   show (bif decOk a then false else true) = false -> _
   cases decOk a
   ·intro h; cases h
   ·intro _; rfl
  have hp := (Qf8.1 hk).1
  have hten : (fun x : In_a5 => decide (x.1 <= 18)) (a.2, ()) = true := decide_eq_true (show a.2 <= 18 by omega)
  have h20 : decide (a.2 <= 20) = true := decide_eq_true (show a.2 <= 20 by omega)
  have hne : (bif decide (pw a.2 = 0) then false else true) = true := by rcases places hp with h | h | h | h <;> rw [h] <;> rfl
  repeat' first
   | refine Qah hten ?_
   | refine Qab hten ?_
   | refine Qab hne ?_
   | with_reducible refine Qbr ?_
   | with_reducible refine Qgc (fun y hq => ?_) ?_
   | with_reducible refine Qn1 h20 (fun y hq => ?_) ?_
   | exact h20
   | (show _ = true; rfl)
   | with_reducible refine Qab (Qdk ?_) ?_
   | (show _ <= 4294967296; simp only [Qbg, Qbx, List.length_cons, List.length_nil]; omega)
   | with_reducible exact Qac (show ByteArray.size _ <= 200 by simp only [Qbg, Qbx, List.length_cons, List.length_nil]; omega)
   | with_reducible refine Qae (fun hc => ?_) fun hc => ?_
 exact ⟨0, key x.1⟩
noncomputable def Qbq := Classical.choose Qhm
theorem Qqg (x : In_br) (hx : (fun x : In_br => true) x = true) : (fun (x : In_br) (v : Out_br) => ByteArray.size v.1 <= 200) x (Qbq x) := (Classical.choose_spec Qhm x hx).2
theorem s_br : C_br (fun x => true) Qbq := S_br s_ab s_a5 s_bp fun x hx => (Classical.choose_spec Qhm x hx).1
theorem Qqh (a : MDec × Unit) (h : (fun a : MDec × Unit => true) a = true) : ByteArray.size (Qbq a).1 <= 200 := Qqg a h
theorem Qn2 {n : MDec} {b : Bool} {β : Type} {F : ByteArray × Unit -> Option β} {P : β -> Prop} (k : ∀ y, ByteArray.size y <= 200 -> Gets (F (y, ())) P) (hb : b = true) : Gets (cl b (Qbq (n, ())) F) P := Qah hb (k _ (Qqh (n, ()) rfl))
theorem Qj1 : ∃ fn : In_bs -> Out_bs, ∀ x, (fun x : In_bs => true) x = true -> (∃ k, E_bs Qa4 (fun x => decide (x.2.1 <= 20)) Qbq (fun x => true) k x = some (fn x)) /\ (fun (x : In_bs) (v : Out_bs) => ByteArray.size v.1 <= 1000) x (fn x) := by
 refine Qax (fun k x => E_bs Qa4 (fun x => decide (x.2.1 <= 20)) Qbq (fun x => true) k x) (fun x : In_bs => true) (fun (x : In_bs) (v : Out_bs) => ByteArray.size v.1 <= 1000) (ByteArray.mk (Array.mk []), ()) fun x hx => ?_
 have key : ∀ a : MAsk, Gets (E_bs Qa4 (fun x => decide (x.2.1 <= 20)) Qbq (fun x => true) 0 (a, ())) (fun v => ByteArray.size v.1 <= 1000) := by
  intro a
  rw [ev_bs 0 a]
  repeat' first
   | with_reducible refine Qbr ?_
   | with_reducible refine Qgc (fun y hq => ?_) ?_
   | with_reducible refine Qn2 (fun y hq => ?_) ?_
   | (show _ = true; rfl)
   | with_reducible refine Qab (Qdk ?_) ?_
   | (show _ <= 4294967296; simp only [Qbg, Qbx, List.length_cons, List.length_nil]; omega)
   | with_reducible exact Qac (show ByteArray.size _ <= 1000 by simp only [Qbg, Qbx, List.length_cons, List.length_nil]; omega)
 exact ⟨0, key x.1⟩
noncomputable def Qda := Classical.choose Qj1
theorem Qtk (x : In_bs) (hx : (fun x : In_bs => true) x = true) : (fun (x : In_bs) (v : Out_bs) => ByteArray.size v.1 <= 1000) x (Qda x) := (Classical.choose_spec Qj1 x hx).2
theorem s_bs : C_bs (fun x => true) Qda := S_bs s_bp s_br fun x hx => (Classical.choose_spec Qj1 x hx).1
theorem Qtl (a : MAsk × Unit) (h : (fun a : MAsk × Unit => true) a = true) : ByteArray.size (Qda a).1 <= 1000 := Qtk a h
theorem Qhn : ∃ fn : In_bq -> Out_bq, ∀ x, (fun x : In_bq => true) x = true -> (∃ k, E_bq k x = some (fn x)) /\ (fun (x : In_bq) (v : Out_bq) => List.length v.1 = 13 /\ ∀ s ∈ v.1, ByteArray.size s <= 10) x (fn x) := by
 refine Qax (fun k x => E_bq k x) (fun x : In_bq => true) (fun (x : In_bq) (v : Out_bq) => List.length v.1 = 13 /\ ∀ s ∈ v.1, ByteArray.size s <= 10) ([], ()) fun x hx => ?_
 exact ⟨0, by
  show Gets (E_bq 0 ()) _
  rw [ev_bq 0]
  exact Qac ⟨rfl, by decide⟩⟩
noncomputable def Qb0 := Classical.choose Qhn
theorem Qqi (x : In_bq) (hx : (fun x : In_bq => true) x = true) : (fun (x : In_bq) (v : Out_bq) => List.length v.1 = 13 /\ ∀ s ∈ v.1, ByteArray.size s <= 10) x (Qb0 x) := (Classical.choose_spec Qhn x hx).2
theorem s_bq : C_bq (fun x => true) Qb0 := S_bq  fun x hx => (Classical.choose_spec Qhn x hx).1
theorem Qho : ∃ fn : In_bt -> Out_bt, ∀ x, (fun x : In_bt => smA x.1.2.2.2.2.2.2) x = true -> (∃ k, E_bt (fun x => (reqOk x.1, ())) (fun x => smA x.1.2.2.2.2.2.2) Qa4 (fun x => decide (x.2.1 <= 20)) Qb0 Qda (fun x => true) Qbq (fun x => true) k x = some (fn x)) /\ (fun (x : In_bt) (v : Out_bt) => ByteArray.size v.1 <= 10000) x (fn x) := by
 refine Qax (fun k x => E_bt (fun x => (reqOk x.1, ())) (fun x => smA x.1.2.2.2.2.2.2) Qa4 (fun x => decide (x.2.1 <= 20)) Qb0 Qda (fun x => true) Qbq (fun x => true) k x) (fun x : In_bt => smA x.1.2.2.2.2.2.2) (fun (x : In_bt) (v : Out_bt) => ByteArray.size v.1 <= 10000) (ByteArray.mk (Array.mk []), ()) fun x hx => ?_
 have key : ∀ r : MReq, smA r.2.2.2.2.2.2 = true -> Gets (E_bt (fun x => (reqOk x.1, ())) (fun x => smA x.1.2.2.2.2.2.2) Qa4 (fun x => decide (x.2.1 <= 20)) Qb0 Qda (fun x => true) Qbq (fun x => true) (List.length r.2.2.2.2.2.2 + 1) (r, ())) (fun v => ByteArray.size v.1 <= 10000) := by
  intro r hr
  rw [ev_bt _ r]
  have hN := Qqi () rfl
  have hn1 : List.length (Qb0 ()).1 = 13 := hN.1
  have hw : ByteArray.size (rdL (e := Sh.str) (Qb0 ()).1 r.2.1) <= 10 := Qt4 hN.2 _
  repeat with_reducible refine Qbr ?_
  refine Qah hr ?_
  refine Qae (fun _ => Qac (by decide)) fun hok => ?_
  have hk : reqOk r = true := by
   revert hok
   show (bif reqOk r then false else true) = false -> _
   cases reqOk r
   ·intro h; cases h
   ·intro _; rfl
  have hki := Qar.1 (Ql9.1 hk).1
  have hix : (bif (decide ((0 : Int) <= r.2.1)) then (decide (r.2.1 < (List.length (Qb0 ()).1 : Int))) else false) = true := by
   rw [decide_eq_true (show (0 : Int) <= r.2.1 by omega), hn1]
   exact decide_eq_true (show r.2.1 < ((13 : Nat) : Int) by omega)
  have htl : r.2.1 = 1 -> List.length r.2.2.2.2.2.2 <= 4 := fun e => by
   have := (Ql9.1 hk).2.2.2.2.2.2
   rw [decide_eq_true e] at this
   exact (Qgg this).2
  have hloop : r.2.1 = 1 -> ∀ s0 : ByteArray, ByteArray.size s0 <= 200 -> Gets (r_bt (fun x => (reqOk x.1, ())) (fun x => smA x.1.2.2.2.2.2.2) Qa4 (fun x => decide (x.2.1 <= 20)) Qb0 Qda (fun x => true) Qbq (fun x => true) (r, ()) (List.length r.2.2.2.2.2.2 + 1) pt6 (h0_bt r s0 (0 : Int))) (fun v => ByteArray.size v.1 <= 10000) := fun e s0 hs0 => by
   have ht := htl e
   refine Qc8 (σ := ByteArray) (fun k i s => r_bt (fun x => (reqOk x.1, ())) (fun x => smA x.1.2.2.2.2.2.2) Qa4 (fun x => decide (x.2.1 <= 20)) Qb0 Qda (fun x => true) Qbq (fun x => true) (r, ()) k pt6 (h0_bt r s (i : Int))) _ (fun i s => ByteArray.size s <= 200 + 1001 * i) (List.length r.2.2.2.2.2.2) (fun k s hs => ?_) (fun k i s hi hs next => ?_) (List.length r.2.2.2.2.2.2) 0 s0 (by omega) (by omega)
   ·rw [rd0_bt, Qaj (Nat.le_refl _)]
    exact Qac (show ByteArray.size s <= 10000 by omega)
   ·rw [rd0_bt, Qai hi, Qal hi, Qan (by omega)]
    rw [cond_true]
    refine Qab (Qdk (by simp only [Qbg, Qbx, List.length_cons, List.length_nil]; omega)) ?_
    try refine Qab rfl ?_
    refine Qtc (pA := fun a : MAsk × Unit => true) (Q := fun a y => ByteArray.size y <= 1000) Qtl rfl rfl fun y hq => ?_
    refine Qab (Qdk (by simp only [Qbg, Qbx, List.length_cons, List.length_nil]; omega)) ?_
    exact next _ (by simp only [Qbg, Qbx, List.length_cons, List.length_nil]; omega)
  with_reducible refine Qgc (fun y hq => ?_) ?_
  case refine_2 => rfl
  repeat with_reducible refine Qbr ?_
  refine Qab (Qdk (by simp only [Qbg, Qbx, List.length_cons, List.length_nil]; omega)) ?_
  refine Qab (Qdk (by simp only [Qbg, Qbx, List.length_cons, List.length_nil]; omega)) ?_
  refine Qab hix ?_
  refine Qab (Qdk (by simp only [Qbg, Qbx, List.length_cons, List.length_nil]; omega)) ?_
  refine Qae (fun hc => hloop (of_decide_eq_true hc) _ (by simp only [Qbg, Qbx, List.length_cons, List.length_nil]; omega)) fun hc => ?_
  repeat' first
   | with_reducible refine Qbr ?_
   | with_reducible refine Qgc (fun y hq => ?_) ?_
   | with_reducible refine Qn2 (fun y hq => ?_) ?_
   | (show _ = true; rfl)
   | with_reducible refine Qab (Qdk ?_) ?_
   | (show _ <= 4294967296; simp only [Qbg, Qbx, List.length_cons, List.length_nil]; omega)
   | with_reducible exact Qac (show ByteArray.size _ <= 10000 by simp only [Qbg, Qbx, List.length_cons, List.length_nil]; omega)
   | with_reducible refine Qae (fun hc => ?_) fun hc => ?_
 exact ⟨_, key x.1 hx⟩
noncomputable def Qcx := Classical.choose Qho
theorem Qqj (x : In_bt) (hx : (fun x : In_bt => smA x.1.2.2.2.2.2.2) x = true) : (fun (x : In_bt) (v : Out_bt) => ByteArray.size v.1 <= 10000) x (Qcx x) := (Classical.choose_spec Qho x hx).2
theorem s_bt : C_bt (fun x => smA x.1.2.2.2.2.2.2) Qcx := S_bt s_bo s_bp s_bq s_bs s_br fun x hx => (Classical.choose_spec Qho x hx).1
theorem Qky : ∃ fn : In_bu -> Out_bu, ∀ x, (fun x : In_bu => decide (ByteArray.size x.2.1 <= 4294967296)) x = true -> (∃ k, E_bu (fun x => (mixW x.1 x.2.1, ())) k x = some (fn x)) /\ (fun (x : In_bu) (v : Out_bu) => True) x (fn x) := by
 refine Qax (fun k x => E_bu (fun x => (mixW x.1 x.2.1, ())) k x) (fun x : In_bu => decide (ByteArray.size x.2.1 <= 4294967296)) (fun (x : In_bu) (v : Out_bu) => True) (0, ()) fun x hx => ?_
 have key : ∀ (m : Int) (t : ByteArray), ByteArray.size t <= 4294967296 -> Gets (E_bu (fun x => (mixW x.1 x.2.1, ())) (ByteArray.size t + 1) (m, t, ())) (fun v => True) := by
  intro m t ht
  rw [ev_bu _ m t]
  refine Qc8 (σ := Int) (fun k i s => r_bu (fun x => (mixW x.1 x.2.1, ())) (m, t, ()) k pt1 (h0_bu m t s (i : Int))) _ (fun i s => True) (ByteArray.size t) (fun k s hs => ?_) (fun k i s hi hs next => ?_) (ByteArray.size t) 0 m (by omega) trivial
  ·rw [rd0_bu, Qaj (Nat.le_refl _)]
   exact Qac trivial
  ·rw [rd0_bu, Qai hi, Qal hi, Qan (by omega)]
   exact next _ trivial
 exact ⟨_, key x.1 x.2.1 (of_decide_eq_true hx)⟩
noncomputable def Qfa := Classical.choose Qky
theorem s_bu : C_bu (fun x => decide (ByteArray.size x.2.1 <= 4294967296)) Qfa := S_bu s_ah fun x hx => (Classical.choose_spec Qky x hx).1
theorem Qjf : ∃ fn : In_bv -> Out_bv, ∀ x, (fun x : In_bv => smA x.2.1.2.2.2.2.2.2) x = true -> (∃ k, E_bv (fun x => (reqOk x.1, ())) (fun x => smA x.1.2.2.2.2.2.2) (fun x => (inq x.1 x.2.1 x.2.2.1, ())) (fun x => (mixW x.1 x.2.1, ())) Qcx (fun x => smA x.1.2.2.2.2.2.2) Qfa (fun x => decide (ByteArray.size x.2.1 <= 4294967296)) k x = some (fn x)) /\ (fun (x : In_bv) (v : Out_bv) => True) x (fn x) := by
 refine Qax (fun k x => E_bv (fun x => (reqOk x.1, ())) (fun x => smA x.1.2.2.2.2.2.2) (fun x => (inq x.1 x.2.1 x.2.2.1, ())) (fun x => (mixW x.1 x.2.1, ())) Qcx (fun x => smA x.1.2.2.2.2.2.2) Qfa (fun x => decide (ByteArray.size x.2.1 <= 4294967296)) k x) (fun x : In_bv => smA x.2.1.2.2.2.2.2.2) (fun (x : In_bv) (v : Out_bv) => True) (0, ()) fun x hx => ?_
 have key : ∀ (m : Int) (r : MReq), smA r.2.2.2.2.2.2 = true -> Gets (E_bv (fun x => (reqOk x.1, ())) (fun x => smA x.1.2.2.2.2.2.2) (fun x => (inq x.1 x.2.1 x.2.2.1, ())) (fun x => (mixW x.1 x.2.1, ())) Qcx (fun x => smA x.1.2.2.2.2.2.2) Qfa (fun x => decide (ByteArray.size x.2.1 <= 4294967296)) 0 (m, r, ())) (fun v => True) := by
  intro m r hr
  rw [ev_bv 0 m r]
  refine Qah hr ?_
  refine Qae (fun _ => Qac trivial) fun _ => ?_
  refine Qae (fun _ => Qac trivial) fun _ => ?_
  refine Qah hr ?_
  have hs : ByteArray.size (Qcx (r, ())).1 <= 10000 := Qqj (r, ()) hr
  refine Qah (decide_eq_true (show ByteArray.size (Qcx (r, ())).1 <= 4294967296 by omega)) ?_
  exact Qac trivial
 exact ⟨0, key x.1 x.2.1 hx⟩
noncomputable def Qdn := Classical.choose Qjf
theorem s_bv : C_bv (fun x => smA x.2.1.2.2.2.2.2.2) Qdn := S_bv s_bo s_a3 s_ah s_bt s_bu fun x hx => (Classical.choose_spec Qjf x hx).1
def audSm (l : List MAud) : Bool := decide (l.length <= 1000) && l.all (fun a => smA a.1.2.2.2.2.2.2)
theorem Qmj {l : List MAud} : audSm l = true ↔ l.length <= 1000 /\ ∀ a ∈ l, smA a.1.2.2.2.2.2.2 = true := by
 unfold audSm; simp only [Bool.and_eq_true, decide_eq_true_eq, List.all_eq_true]
theorem Qin : ∃ fn : In_bw -> Out_bw, ∀ x, (fun x : In_bw => audSm x.1 && smA x.2.1.2.2.2.2.2.2) x = true -> (∃ k, E_bw (fun x => (x.1, ())) (fun x => smA x.1.2.2.2.2.2.2) (fun x => (reqOk x.1, ())) (fun x => smA x.1.2.2.2.2.2.2) Qdn (fun x => smA x.2.1.2.2.2.2.2.2) k x = some (fn x)) /\ (fun (x : In_bw) (v : Out_bw) => List.length v.1 <= List.length x.1 + 1 /\ ∀ a ∈ v.1, smA a.1.2.2.2.2.2.2 = true) x (fn x) := by
 refine Qax (fun k x => E_bw (fun x => (x.1, ())) (fun x => smA x.1.2.2.2.2.2.2) (fun x => (reqOk x.1, ())) (fun x => smA x.1.2.2.2.2.2.2) Qdn (fun x => smA x.2.1.2.2.2.2.2.2) k x) (fun x : In_bw => audSm x.1 && smA x.2.1.2.2.2.2.2.2) (fun (x : In_bw) (v : Out_bw) => List.length v.1 <= List.length x.1 + 1 /\ ∀ a ∈ v.1, smA a.1.2.2.2.2.2.2 = true) ([], ()) fun x hx => ?_
 have key : ∀ (l : List MAud) (r : MReq), audSm l = true -> smA r.2.2.2.2.2.2 = true -> Gets (E_bw (fun x => (x.1, ())) (fun x => smA x.1.2.2.2.2.2.2) (fun x => (reqOk x.1, ())) (fun x => smA x.1.2.2.2.2.2.2) Qdn (fun x => smA x.2.1.2.2.2.2.2.2) (List.length l + 1) (l, r, ())) (fun v => List.length v.1 <= List.length l + 1 /\ ∀ a ∈ v.1, smA a.1.2.2.2.2.2.2 = true) := by
  intro l r hl hr
  obtain ⟨l1, l2⟩ := Qmj.1 hl
  rw [ev_bw _ l r]
  refine Qc8 (σ := List MAud) (fun k i s => r_bw (fun x => (x.1, ())) (fun x => smA x.1.2.2.2.2.2.2) (fun x => (reqOk x.1, ())) (fun x => smA x.1.2.2.2.2.2.2) Qdn (fun x => smA x.2.1.2.2.2.2.2.2) (l, r, ()) k pt0 (h0_bw l r (i : Int) s)) _ (fun i s => List.length s = i /\ ∀ a ∈ s, smA a.1.2.2.2.2.2.2 = true) (List.length l) (fun k s hs => ?_) (fun k i s hi hs next => ?_) (List.length l) 0 [] (by omega) ⟨rfl, fun a ha => by cases ha⟩
  ·obtain ⟨hs1, hs2⟩ := hs
   rw [rd0_bw]
   repeat with_reducible refine Qbr ?_
   rw [Qaj (Nat.le_refl _), cond_false]
   have happ : ∀ z : MAud, smA z.1.2.2.2.2.2.2 = true -> List.length (List.append s [z]) <= List.length l + 1 /\ ∀ a ∈ List.append s [z], smA a.1.2.2.2.2.2.2 = true := fun z hz => by
    refine ⟨?_, fun a ha => ?_⟩
    ·show (s ++ [z]).length <= _
     rw [List.length_append]; show s.length + 1 <= _; omega
    ·rcases List.mem_append.1 ha with ha | ha
     ·exact hs2 a ha
     ·rw [List.mem_singleton.1 ha]; exact hz
   have hfit : ∀ z : MAud, fitL s [z] = true := fun z => Qaz (by show s.length + 1 <= _; omega)
   refine Qah hr ?_
   refine Qae (fun _ => Qac ⟨show List.length s <= _ by omega, hs2⟩) fun _ => ?_
   refine Qae (fun _ => Qac ⟨show List.length s <= _ by omega, hs2⟩) fun _ => ?_
   refine Qae (fun hc => ?_) fun _ => ?_
   ·have hc : (0 : Int) < (List.length l : Int) := of_decide_eq_true hc
    refine Qab ?_ (Qah hr (Qah hr (Qab (hfit _) (Qac (happ _ hr)))))
    rw [Qak (by omega) (by omega), decide_eq_true (show (0 : Int) <= (List.length l : Int) - 1 by omega)]
    exact decide_eq_true (by omega)
   ·exact Qah hr (Qah hr (Qab (hfit _) (Qac (happ _ hr))))
  ·obtain ⟨hs1, hs2⟩ := hs
   rw [rd0_bw]
   repeat with_reducible refine Qbr ?_
   have hd := List.drop_eq_getElem_cons hi
   rw [Qai hi, Qal hi, Qan (by omega), Qag (S := S_AudLine) hd, cond_true]
   have h3 : smA l[i].1.2.2.2.2.2.2 = true := l2 _ (Qce hd)
   refine Qab rfl (Qah h3 (Qab rfl (Qab (Qaz (by show s.length + 1 <= _; omega)) ?_)))
   refine next _ ⟨?_, fun a ha => ?_⟩
   ·show (s ++ [_]).length = _
    rw [List.length_append]; show s.length + 1 = _; omega
   ·rcases List.mem_append.1 ha with ha | ha
    ·exact hs2 a ha
    ·rw [List.mem_singleton.1 ha]; exact h3
 obtain ⟨hx1, hx2⟩ := Bool.and_eq_true_iff.1 hx
 exact ⟨_, key x.1 x.2.1 hx1 hx2⟩
noncomputable def Qbt := Classical.choose Qin
theorem Qse (x : In_bw) (hx : (fun x : In_bw => audSm x.1 && smA x.2.1.2.2.2.2.2.2) x = true) : (fun (x : In_bw) (v : Out_bw) => List.length v.1 <= List.length x.1 + 1 /\ ∀ a ∈ v.1, smA a.1.2.2.2.2.2.2 = true) x (Qbt x) := (Classical.choose_spec Qin x hx).2
theorem s_bw : C_bw (fun x => audSm x.1 && smA x.2.1.2.2.2.2.2.2) Qbt := S_bw s_bm s_bo s_bv fun x hx => (Classical.choose_spec Qin x hx).1
end Go.Proofs.YtddpemilmeijfaaGreat

set_option linter.unusedVariables false
set_option linter.unusedSimpArgs false
namespace Go.Proofs.YtddpemilmeijfaaGreat
open Go.Vm
theorem Qgp : ∃ fn : In_a2 -> Out_a2, ∀ x, (fun x : In_a2 => rdB 1 x.1) x = true -> (∃ k, E_a2 Qaa (fun x => rdB 1 x.1) k x = some (fn x)) /\ (fun (x : In_a2) (v : Out_a2) => Step 1 x.1 v.2.1 /\ rolesOk v.1 = true) x (fn x) := by
 refine Qax (fun k x => E_a2 Qaa (fun x => rdB 1 x.1) k x) (fun x : In_a2 => rdB 1 x.1) (fun (x : In_a2) (v : Out_a2) => Step 1 x.1 v.2.1 /\ rolesOk v.1 = true) ([], (([], 0), ())) fun x hx => ?_
 have key : ∀ (r0 : MRd), RdOk 1 r0 -> Gets (E_a2 Qaa (fun x => rdB 1 x.1) 0 (r0, ())) (fun v => Step 1 r0 v.2.1 /\ rolesOk v.1 = true) := by
  intro r0 h0
  rw [ev_a2 0 r0]
  refine Qam (Q := PickQ) Qaf h0 rfl (Step.refl r0) (by decide) fun y r' hq hs => ?_
  refine Qab (Qc4 hq (by decide) (by exact Int.le_refl _)) ?_
  exact Qac ⟨hs.mono (by decide), Qtd hq⟩
 exact ⟨0, key x.1 (Qas.1 hx)⟩
noncomputable def Qau := Classical.choose Qgp
theorem Qol (x : In_a2) (hx : (fun x : In_a2 => rdB 1 x.1) x = true) : (fun (x : In_a2) (v : Out_a2) => Step 1 x.1 v.2.1 /\ rolesOk v.1 = true) x (Qau x) := (Classical.choose_spec Qgp x hx).2
theorem s_a2 : C_a2 (fun x => rdB 1 x.1) Qau := S_a2 s_a1 fun x hx => (Classical.choose_spec Qgp x hx).1
theorem Qom (r : MRd) (a : Unit) (h : RdOk 1 r) : Step 1 r (Qau (r, a)).2.1 /\ (fun (a : Unit) y => rolesOk y = true) a (Qau (r, a)).1 := Qol (r, a) (Qas.2 h)
theorem Qhp : ∃ fn : In_ag -> Out_ag, ∀ x, (fun x : In_ag => rdB 3 x.1) x = true -> (∃ k, E_ag Qaa (fun x => rdB 1 x.1) Qa7 (fun x => rdB 2 x.1) k x = some (fn x)) /\ (fun (x : In_ag) (v : Out_ag) => Step 3 x.1 v.2.1 /\ True) x (fn x) := by
 refine Qax (fun k x => E_ag Qaa (fun x => rdB 1 x.1) Qa7 (fun x => rdB 2 x.1) k x) (fun x : In_ag => rdB 3 x.1) (fun (x : In_ag) (v : Out_ag) => Step 3 x.1 v.2.1 /\ True) ((0, 0), (([], 0), ())) fun x hx => ?_
 have key : ∀ (r0 : MRd) (a1 : MAsk), RdOk 3 r0 -> Gets (E_ag Qaa (fun x => rdB 1 x.1) Qa7 (fun x => rdB 2 x.1) 0 (r0, a1, ())) (fun v => Step 3 r0 v.2.1 /\ True) := by
  intro r0 a1 h0
  have hs := Step.refl r0
  rw [ev_ag 0 r0 a1]
  repeat' first
   | refine Qam (Q := PickQ) Qaf h0 rfl (by assumption) (by decide) fun y r' hq hs => ?_
   | refine Qam (Q := fun a y => True) Qem h0 rfl (by assumption) (by decide) fun y r' hq hs => ?_
   | refine Qah (Qdy (by assumption) (by decide) (by decide)) ?_
   | refine Qab (Qdy (by assumption) (by decide) (by decide)) ?_
   | refine Qab (Qc4 (by assumption) (by decide) (by exact Int.le_refl _)) ?_
   | exact Qac ⟨Step.mono (by assumption) (by decide), trivial⟩
   | refine Qae (fun hc => ?_) fun hc => ?_
 exact ⟨0, key x.1 x.2.1 (Qas.1 hx)⟩
noncomputable def Qbj := Classical.choose Qhp
theorem Qqk (x : In_ag) (hx : (fun x : In_ag => rdB 3 x.1) x = true) : (fun (x : In_ag) (v : Out_ag) => Step 3 x.1 v.2.1 /\ True) x (Qbj x) := (Classical.choose_spec Qhp x hx).2
theorem s_ag : C_ag (fun x => rdB 3 x.1) Qbj := S_ag s_a1 s_af fun x hx => (Classical.choose_spec Qhp x hx).1
theorem Qkz (r : MRd) (a : MAsk × Unit) (h : RdOk 3 r) : Step 3 r (Qbj (r, a)).2.1 /\ (True) := Qqk (r, a) (Qas.2 h)
theorem Qio : ∃ fn : In_an -> Out_an, ∀ x, (fun x : In_an => rdB 1 x.1 && decide (1 <= List.length x.2.1 /\ List.length x.2.1 <= 5)) x = true -> (∃ k, E_an Qaa (fun x => rdB 1 x.1) (fun x => (reqMay x.1 x.2.1, ())) k x = some (fn x)) /\ (fun (x : In_an) (v : Out_an) => Step 1 x.1 v.2.1 /\ (1 <= v.1 /\ v.1 <= 5)) x (fn x) := by
 refine Qax (fun k x => E_an Qaa (fun x => rdB 1 x.1) (fun x => (reqMay x.1 x.2.1, ())) k x) (fun x : In_an => rdB 1 x.1 && decide (1 <= List.length x.2.1 /\ List.length x.2.1 <= 5)) (fun (x : In_an) (v : Out_an) => Step 1 x.1 v.2.1 /\ (1 <= v.1 /\ v.1 <= 5)) (0, (([], 0), ())) fun x hx => ?_
 have key : ∀ (r0 : MRd) (l : List Int) (c : Int), RdOk 1 r0 -> (1 <= List.length l /\ List.length l <= 5) -> Gets (E_an Qaa (fun x => rdB 1 x.1) (fun x => (reqMay x.1 x.2.1, ())) (List.length l + 1) (r0, l, c, ())) (fun v => Step 1 r0 v.2.1 /\ (1 <= v.1 /\ v.1 <= 5)) := by
  intro r0 l c h0 hl
  rw [ev_an _ r0 l c]
  refine Qam (Q := PickQ) Qaf h0 rfl (Step.refl r0) (by decide) fun y r' hq hs => ?_
  have hw : w64 ((List.length l : Int) + (1 : Int)) = (List.length l : Int) + 1 := Qak (by omega) (by omega)
  have hy0 : 0 <= y := hq.1
  have hy1 : y < (List.length l : Int) + 1 := by
   have := hq.2 (by rw [hw]; omega)
   rwa [hw] at this
  refine Qc8 (σ := Unit) (fun k i s => r_an Qaa (fun x => rdB 1 x.1) (fun x => (reqMay x.1 x.2.1, ())) (r0, l, c, ()) k pt0 (h0_an r0 l c y (i : Int) r')) _ (fun _ _ => True) (List.length l) (fun k s _ => ?_) (fun k i s hi _ next => ?_) (List.length l) 0 () (by omega) trivial
  ·rw [rd0_an, Qaj (Nat.le_refl _)]
   exact Qac ⟨hs.mono (by decide), show (1 : Int) <= 1 /\ (1 : Int) <= 5 by decide⟩
  ·have e1 : w64 (y + (i : Int)) = y + i := Qak (by omega) (by omega)
   have m0 : 0 <= Int.tmod (y + i) (List.length l) := Int.tmod_nonneg _ (by omega)
   have m1 : Int.tmod (y + i) (List.length l) < (List.length l : Int) := Int.tmod_lt_of_pos _ (by omega)
   have e2 : (bif (decide ((List.length l : Int) = (0 : Int))) then false else true) = true := by rw [decide_eq_false (by omega)]; rfl
   rw [rd0_an, Qal hi, e2, e1, Qan (by omega), decide_eq_true m0, decide_eq_true m1, Qak (x := Int.tmod (y + (i : Int)) (List.length l : Int) + 1) (by omega) (by omega), cond_true]
   refine Qab rfl (Qab rfl ?_)
   refine Qae (fun _ => Qac ⟨hs.mono (by decide), ?_⟩) fun _ => next () trivial
   show 1 <= Int.tmod (y + (i : Int)) (List.length l : Int) + 1 /\ Int.tmod (y + (i : Int)) (List.length l : Int) + 1 <= 5
   omega
 obtain ⟨hx1, hx2⟩ := Bool.and_eq_true_iff.1 hx
 exact ⟨_, key x.1 x.2.1 x.2.2.1 (Qas.1 hx1) (of_decide_eq_true hx2)⟩
noncomputable def Qdb := Classical.choose Qio
theorem Qsf (x : In_an) (hx : (fun x : In_an => rdB 1 x.1 && decide (1 <= List.length x.2.1 /\ List.length x.2.1 <= 5)) x = true) : (fun (x : In_an) (v : Out_an) => Step 1 x.1 v.2.1 /\ (1 <= v.1 /\ v.1 <= 5)) x (Qdb x) := (Classical.choose_spec Qio x hx).2
theorem s_an : C_an (fun x => rdB 1 x.1 && decide (1 <= List.length x.2.1 /\ List.length x.2.1 <= 5)) Qdb := S_an s_a1 s_am fun x hx => (Classical.choose_spec Qio x hx).1
theorem Qsg (r : MRd) (a : List Int × Int × Unit) (h : RdOk 1 r) (ha : (fun a : List Int × Int × Unit => decide (1 <= List.length a.1 /\ List.length a.1 <= 5)) a = true) : Step 1 r (Qdb (r, a)).2.1 /\ (fun (a : List Int × Int × Unit) (y : Int) => 1 <= y /\ y <= 5) a (Qdb (r, a)).1 := Qsf (r, a) (Bool.and_eq_true_iff.2 ⟨Qas.2 h, ha⟩)
theorem Qdr {u k a t n : Int} {v : MDec} (h : 4 <= k /\ k <= 12) : NextQ a (u, k, a, t, n, v, []) := ⟨rfl, rfl, h⟩
theorem Qhq : ∃ fn : In_al -> Out_al, ∀ x, (fun x : In_al => rdB 3 x.1 && (houOk x.2.1 && (decide (0 <= x.2.2.1) && decide (x.2.2.1 < (List.length x.2.1.2.2 : Int))))) x = true -> (∃ k, E_al Qbj (fun x => rdB 3 x.1) Qaa (fun x => rdB 1 x.1) (fun x => (hands x.1, ())) (fun x => smB x.1 && sigsOk x.1) k x = some (fn x)) /\ (fun (x : In_al) (v : Out_al) => Step 3 x.1 v.2.1 /\ NextQ x.2.2.1 v.1) x (fn x) := by
 refine Qax (fun k x => E_al Qbj (fun x => rdB 3 x.1) Qaa (fun x => rdB 1 x.1) (fun x => (hands x.1, ())) (fun x => smB x.1 && sigsOk x.1) k x) (fun x : In_al => rdB 3 x.1 && (houOk x.2.1 && (decide (0 <= x.2.2.1) && decide (x.2.2.1 < (List.length x.2.1.2.2 : Int))))) (fun (x : In_al) (v : Out_al) => Step 3 x.1 v.2.1 /\ NextQ x.2.2.1 v.1) ((0, 0, 0, 0, 0, (0, 0), []), (([], 0), ())) fun x hx => ?_
 have key : ∀ (r0 : MRd) (h : MHou) (a : Int), RdOk 3 r0 -> houOk h = true -> 0 <= a -> a < (List.length h.2.2 : Int) -> WithFuel (fun k => E_al Qbj (fun x => rdB 3 x.1) Qaa (fun x => rdB 1 x.1) (fun x => (hands x.1, ())) (fun x => smB x.1 && sigsOk x.1) k (r0, h, a, ())) (fun v => Step 3 r0 v.2.1 /\ NextQ a v.1) := by
  intro r0 h a h0 hh ha ha2
  have hb : batOk (rdL (e := S_BatBatch) h.2.2 a) = true := Qlh hh ha ha2
  generalize hbe : rdL (e := S_BatBatch) h.2.2 a = b at hb
  obtain ⟨⟨_, _, hbl, _, _, hb6, hb7, hb8⟩, _⟩ := Qbf.1 hb
  have hbs := Qf9 hb
  have hs := Step.refl r0
  have hl := Qey (σ := Unit) b.2.2.1.length (fun k i _ => r_al Qbj (fun x => rdB 3 x.1) Qaa (fun x => rdB 1 x.1) (fun x => (hands x.1, ())) (fun x => smB x.1 && sigsOk x.1) (r0, h, a, ()) k pt0 (h0_al r0 h a (i : Int) (0 : Int) (0 : Int) (0 : Int) (0 : Int) (0 : Int) ((0 : Int), (0 : Int)) [] b r0)) (fun v => Step 3 r0 v.2.1 /\ NextQ a v.1) (fun _ _ => True) (fun s _ => ?_) (fun i s hi _ next => ?_) b.2.2.1.length 0 () (by omega) trivial
  ·obtain ⟨k, hk⟩ := hl
   refine ⟨k, ?_⟩
   show Gets (E_al Qbj (fun x => rdB 3 x.1) Qaa (fun x => rdB 1 x.1) (fun x => (hands x.1, ())) (fun x => smB x.1 && sigsOk x.1) k (r0, h, a, ())) _
   rw [ev_al k r0 h a, hbe]
   refine Qab ?_ hk
   rw [decide_eq_true ha]; exact decide_eq_true ha2
  ·have hl2 := Qey (σ := Unit) b.2.2.2.2.2.length (fun k i _ => r_al Qbj (fun x => rdB 3 x.1) Qaa (fun x => rdB 1 x.1) (fun x => (hands x.1, ())) (fun x => smB x.1 && sigsOk x.1) (r0, h, a, ()) k pt2 (h1_al r0 h a (i : Int) (0 : Int) (0 : Int) (0 : Int) (0 : Int) (0 : Int) ((0 : Int), (0 : Int)) [] b r0)) (fun v => Step 3 r0 v.2.1 /\ NextQ a v.1) (fun _ _ => True) (fun s _ => ?_) (fun i s hi _ next => ?_) b.2.2.2.2.2.length 0 () (by omega) trivial
   ·obtain ⟨k, hk⟩ := hl2
    refine ⟨k + 1, ?_⟩
    show Gets (r_al Qbj (fun x => rdB 3 x.1) Qaa (fun x => rdB 1 x.1) (fun x => (hands x.1, ())) (fun x => smB x.1 && sigsOk x.1) (r0, h, a, ()) (k + 1) pt0 _) _
    rw [rd0_al]
    repeat with_reducible refine Qbr ?_
    rw [Qaj (Nat.le_refl _), cond_false]
    exact hk
   ·refine ⟨1, ?_⟩
    show Gets (r_al Qbj (fun x => rdB 3 x.1) Qaa (fun x => rdB 1 x.1) (fun x => (hands x.1, ())) (fun x => smB x.1 && sigsOk x.1) (r0, h, a, ()) (0 + 1) pt2 _) _
    rw [rd1_al, Qaj (Nat.le_refl _), cond_false]
    refine Qae (fun _ => Qac ⟨hs.mono (by decide), Qdr (by decide)⟩) fun _ => ?_
    refine Qah (show (smB b && sigsOk b) = true by rw [hbs, hb7]; rfl) ?_
    exact Qae (fun _ => Qac ⟨hs.mono (by decide), Qdr (by decide)⟩) fun _ => Qac ⟨hs.mono (by decide), Qdr (by decide)⟩
   ·obtain ⟨k, hk⟩ := next () trivial
    refine ⟨k + 1, ?_⟩
    show Gets (r_al Qbj (fun x => rdB 3 x.1) Qaa (fun x => rdB 1 x.1) (fun x => (hands x.1, ())) (fun x => smB x.1 && sigsOk x.1) (r0, h, a, ()) (k + 1) pt2 _) _
    rw [rd1_al, Qai hi, Qal hi, Qan (by omega), cond_true]
    refine Qab rfl ?_
    exact Qae (fun _ => Qac ⟨hs.mono (by decide), Qdr (by decide)⟩) fun _ => hk
  ·obtain ⟨k, hk⟩ := next () trivial
   refine ⟨k + 1, ?_⟩
   show Gets (r_al Qbj (fun x => rdB 3 x.1) Qaa (fun x => rdB 1 x.1) (fun x => (hands x.1, ())) (fun x => smB x.1 && sigsOk x.1) (r0, h, a, ()) (k + 1) pt0 _) _
   rw [rd0_al]
   repeat with_reducible refine Qbr ?_
   rw [Qai hi, Qal hi, Qan (by omega), cond_true]
   refine Qab rfl ?_
   refine Qae (fun _ => ?_) fun _ => Qae (fun _ => ?_) fun _ => Qae (fun _ => ?_) fun _ => ?_
   ·refine Qam (Q := fun a y => True) Qkz h0 rfl hs (by decide) fun y r' hq hs => ?_
    exact Qae (fun _ => Qac ⟨hs.mono (by decide), Qdr (by decide)⟩) fun h => absurd h (by decide)
   ·refine Qam (Q := PickQ) Qaf h0 rfl hs (by decide) fun y r' hq hs => ?_
    refine Qab (Qc4 hq (by decide) (by exact Int.le_refl _)) ?_
    exact Qae (fun _ => Qac ⟨hs.mono (by decide), Qdr (by decide)⟩) fun h => absurd h (by decide)
   ·refine Qam (Q := fun a y => True) Qkz h0 rfl hs (by decide) fun y r' hq hs => ?_
    exact Qae (fun _ => Qac ⟨hs.mono (by decide), Qdr (by decide)⟩) fun h => absurd h (by decide)
   ·exact Qae (fun h => absurd h (by decide)) fun _ => hk
 obtain ⟨hx1, hx2⟩ := Bool.and_eq_true_iff.1 hx
 obtain ⟨hx2, hx3⟩ := Bool.and_eq_true_iff.1 hx2
 obtain ⟨hx3, hx4⟩ := Bool.and_eq_true_iff.1 hx3
 exact key x.1 x.2.1 x.2.2.1 (Qas.1 hx1) hx2 (of_decide_eq_true hx3) (of_decide_eq_true hx4)
noncomputable def Qcy := Classical.choose Qhq
theorem Qql (x : In_al) (hx : (fun x : In_al => rdB 3 x.1 && (houOk x.2.1 && (decide (0 <= x.2.2.1) && decide (x.2.2.1 < (List.length x.2.1.2.2 : Int))))) x = true) : (fun (x : In_al) (v : Out_al) => Step 3 x.1 v.2.1 /\ NextQ x.2.2.1 v.1) x (Qcy x) := (Classical.choose_spec Qhq x hx).2
theorem s_al : C_al (fun x => rdB 3 x.1 && (houOk x.2.1 && (decide (0 <= x.2.2.1) && decide (x.2.2.1 < (List.length x.2.1.2.2 : Int))))) Qcy := S_al s_ag s_a1 s_ak fun x hx => (Classical.choose_spec Qhq x hx).1
theorem Qqm (r : MRd) (a : MHou × Int × Unit) (h : RdOk 3 r) (ha : (fun a : MHou × Int × Unit => houOk a.1 && (decide (0 <= a.2.1) && decide (a.2.1 < (List.length a.1.2.2 : Int)))) a = true) : Step 3 r (Qcy (r, a)).2.1 /\ (fun (a : MHou × Int × Unit) (y : MReq) => NextQ a.2.1 y) a (Qcy (r, a)).1 := Qql (r, a) (Bool.and_eq_true_iff.2 ⟨Qas.2 h, ha⟩)
theorem Qo5 {u k b t n : Int} {v : MDec} (hu : 1 <= u /\ u <= 6) (hk : 4 <= k /\ k <= 12) (hb : 0 <= b /\ b <= 9) : ReqD (u, (form8 (0, k, b, t, n, v, [])).2) := by
 unfold form8
 have z : (0 : Int) <= 0 /\ (0 : Int) <= 9 := by decide
 have h1 : 1 <= k /\ k <= 12 := by omega
 have h3 : ∀ n : Int, k = 3 -> 0 <= n /\ n <= 10000 := fun n h => by omega
 dsimp only
 repeat' split
 all_goals first | exact Qd0 hu z (Nat.zero_le _) h1 (h3 _) | exact Qd0 hu hb (Nat.zero_le _) h1 (h3 _)
theorem Qmk {y : Int} (h : PickQ ((9 : Int), ()) y) : 4 <= w64 ((4 : Int) + y) /\ w64 ((4 : Int) + y) <= 12 := by
 have h1 : 0 <= y := h.1
 have h2 : y < 9 := h.2 (show (1 : Int) <= 9 by decide)
 rw [Qak (by omega) (by omega)]; omega
theorem Qn3 {y : Int} {n : Nat} (hn : n <= 4) (h : PickQ (w64 ((n : Int) + (1 : Int)), ()) y) : 0 <= y /\ y <= 9 := by
 have h1 : 0 <= y := h.1
 have e : w64 ((n : Int) + (1 : Int)) = (n : Int) + 1 := Qak (by omega) (by omega)
 rw [e] at h
 have h2 : y < (n : Int) + 1 := h.2 (show (1 : Int) <= (n : Int) + 1 by omega)
 omega
theorem Qo6 {h : MHou} {y : Int} (g3 : h.2.2.length <= 4) (hc : decide ((List.length h.2.2 : Int) = (0 : Int)) = false) (hq : PickQ ((List.length h.2.2 : Int), ()) y) : 0 <= y /\ y <= 9 := by
 have h1 : 0 <= y := hq.1
 have h2 := of_decide_eq_false hc
 have h3 : y < (List.length h.2.2 : Int) := hq.2 (show (1 : Int) <= (List.length h.2.2 : Int) by omega)
 omega
theorem Qtm {h : MHou} {y : Int} (hh : houOk h = true) (hc : decide ((List.length h.2.2 : Int) = (0 : Int)) = false) (hq : PickQ ((List.length h.2.2 : Int), ()) y) : (fun a : MHou × Int × Unit => houOk a.1 && (decide (0 <= a.2.1) && decide (a.2.1 < (List.length a.1.2.2 : Int)))) (h, y, ()) = true := by
 have h1 : 0 <= y := hq.1
 have h2 := of_decide_eq_false hc
 have h3 : y < (List.length h.2.2 : Int) := hq.2 (show (1 : Int) <= (List.length h.2.2 : Int) by omega)
 show (houOk h && (decide (0 <= y) && decide (y < (List.length h.2.2 : Int)))) = true
 rw [hh, decide_eq_true h1, decide_eq_true h3]; rfl
theorem Qip : ∃ fn : In_ao -> Out_ao, ∀ x, (fun x : In_ao => rdB 90 x.1 && houOk x.2.1) x = true -> (∃ k, E_ao Qaa (fun x => rdB 1 x.1) Qa6 (fun x => rdB 76 x.1) (fun x => (spcNow x.1, ())) (fun x => decide (List.length x.1 <= 4294967296)) (fun x => (form8 x.1, ())) Qcy (fun x => rdB 3 x.1 && (houOk x.2.1 && (decide (0 <= x.2.2.1) && decide (x.2.2.1 < (List.length x.2.1.2.2 : Int))))) Qdb (fun x => rdB 1 x.1 && decide (1 <= List.length x.2.1 /\ List.length x.2.1 <= 5)) k x = some (fn x)) /\ (fun (x : In_ao) (v : Out_ao) => Step 90 x.1 v.2.1 /\ ReqD v.1) x (fn x) := by
 refine Qax (fun k x => E_ao Qaa (fun x => rdB 1 x.1) Qa6 (fun x => rdB 76 x.1) (fun x => (spcNow x.1, ())) (fun x => decide (List.length x.1 <= 4294967296)) (fun x => (form8 x.1, ())) Qcy (fun x => rdB 3 x.1 && (houOk x.2.1 && (decide (0 <= x.2.2.1) && decide (x.2.2.1 < (List.length x.2.1.2.2 : Int))))) Qdb (fun x => rdB 1 x.1 && decide (1 <= List.length x.2.1 /\ List.length x.2.1 <= 5)) k x) (fun x : In_ao => rdB 90 x.1 && houOk x.2.1) (fun (x : In_ao) (v : Out_ao) => Step 90 x.1 v.2.1 /\ ReqD v.1) ((1, 1, 0, 0, 0, (0, 0), []), (([], 0), ())) fun x hx => ?_
 have key : ∀ (r0 : MRd) (h : MHou), RdOk 90 r0 -> houOk h = true -> Gets (E_ao Qaa (fun x => rdB 1 x.1) Qa6 (fun x => rdB 76 x.1) (fun x => (spcNow x.1, ())) (fun x => decide (List.length x.1 <= 4294967296)) (fun x => (form8 x.1, ())) Qcy (fun x => rdB 3 x.1 && (houOk x.2.1 && (decide (0 <= x.2.2.1) && decide (x.2.2.1 < (List.length x.2.1.2.2 : Int))))) Qdb (fun x => rdB 1 x.1 && decide (1 <= List.length x.2.1 /\ List.length x.2.1 <= 5)) 0 (r0, h, ())) (fun v => Step 90 r0 v.2.1 /\ ReqD v.1) := by
  intro r0 h h0 hh
  obtain ⟨g1, g2, g3, g4⟩ := Qbs.1 hh
  have g1 := (Qgh.1 g1).1
  have hsp := (Qco.1 g2).1
  have hnow : decide (List.length h.2.1 <= 4294967296) = true := decide_eq_true (by omega)
  have hwho : decide (1 <= List.length h.1 /\ List.length h.1 <= 5) = true := decide_eq_true g1
  have hs := Step.refl r0
  rw [ev_ao 0 r0 h]
  repeat' first
   | with_reducible refine Qam (Q := PickQ) Qaf h0 rfl (by assumption) (by decide) fun y r' hq hs => ?_
   | with_reducible refine Qam (Q := fun a y => 1 <= List.length y /\ List.length y <= 5) Qje h0 rfl (by assumption) (by decide) fun y r' hq hs => ?_
   | with_reducible refine Qhh (pA := fun a : List Int × Int × Unit => decide (1 <= List.length a.1 /\ List.length a.1 <= 5)) (Q := fun a y => 1 <= y /\ y <= 5) Qsg h0 rfl hwho (by assumption) (by decide) fun y r' hq hs => ?_
   | with_reducible refine Qah hnow ?_
   | refine Qhh (pA := fun a : MHou × Int × Unit => houOk a.1 && (decide (0 <= a.2.1) && decide (a.2.1 < (List.length a.1.2.2 : Int)))) (Q := fun a y => NextQ a.2.1 y) Qqm h0 rfl (Qtm hh (by assumption) (by assumption)) (by assumption) (by decide) fun y r' hq hs => ?_
   | refine Qab (Qc4 (by assumption) (by decide) (by exact Int.le_refl _)) ?_
   | with_reducible refine Qbr ?_
   | with_reducible refine Qac ⟨Step.mono (by assumption) (by decide), ?_⟩
   | with_reducible refine Qae (fun hc => ?_) fun hc => ?_
   | exact Qd0 (Qfz (by assumption)) ⟨by decide, by decide⟩ (And.right (by assumption)) ⟨by decide, by decide⟩ (fun h => absurd h (by decide))
   | exact Qd0 (Qgv (by assumption)) ⟨by decide, by decide⟩ (And.right (by assumption)) ⟨by decide, by decide⟩ (fun h => absurd h (by decide))
   | exact Qd0 (Qfz (by assumption)) ⟨by decide, by decide⟩ (Nat.zero_le _) ⟨by decide, by decide⟩ (fun h => absurd h (by decide))
   | exact Qd0 (Qgv (by assumption)) ⟨by decide, by decide⟩ (Nat.zero_le _) ⟨by decide, by decide⟩ (fun h => absurd h (by decide))
   | exact Qd0 (Qfz (by assumption)) ⟨by decide, by decide⟩ (Nat.zero_le _) ⟨by decide, by decide⟩ (fun _ => Qo2 _)
   | exact Qd0 (Qgv (by assumption)) ⟨by decide, by decide⟩ (Nat.zero_le _) ⟨by decide, by decide⟩ (fun _ => Qo2 _)
   | exact Qmd (Qfz (by assumption)) (Qo6 g3 (by assumption) (by assumption)) (by assumption)
   | exact Qmd (Qgv (by assumption)) (Qo6 g3 (by assumption) (by assumption)) (by assumption)
   | exact Qo5 (Qfz (by assumption)) (Qmk (by assumption)) (Qn3 g3 (by assumption))
   | exact Qo5 (Qgv (by assumption)) (Qmk (by assumption)) (Qn3 g3 (by assumption))
 obtain ⟨hx1, hx2⟩ := Bool.and_eq_true_iff.1 hx
 exact ⟨0, key x.1 x.2.1 (Qas.1 hx1) hx2⟩
noncomputable def Qay := Classical.choose Qip
theorem Qsh (x : In_ao) (hx : (fun x : In_ao => rdB 90 x.1 && houOk x.2.1) x = true) : (fun (x : In_ao) (v : Out_ao) => Step 90 x.1 v.2.1 /\ ReqD v.1) x (Qay x) := (Classical.choose_spec Qip x hx).2
theorem s_ao : C_ao (fun x => rdB 90 x.1 && houOk x.2.1) Qay := S_ao s_a1 s_a8 s_a9 s_aa s_al s_an fun x hx => (Classical.choose_spec Qip x hx).1
theorem Qsi (r : MRd) (a : MHou × Unit) (h : RdOk 90 r) (ha : (fun a : MHou × Unit => houOk a.1) a = true) : Step 90 r (Qay (r, a)).2.1 /\ (fun (a : MHou × Unit) (y : MReq) => ReqD y) a (Qay (r, a)).1 := Qsh (r, a) (Bool.and_eq_true_iff.2 ⟨Qas.2 h, ha⟩)
theorem Qgq : ∃ fn : In_bx -> Out_bx, ∀ x, (fun x : In_bx => rdB 4000 x.1) x = true -> (∃ k, E_bx Qau (fun x => rdB 1 x.1) (fun x => (houNew x.1, ())) (fun x => decide (List.length x.1 <= 4294967296)) Qaa (fun x => rdB 1 x.1) Qay (fun x => rdB 90 x.1 && houOk x.2.1) (fun x => (x.1, ())) (fun x => houSm x.1) (fun x => ((houGo x.1 x.2.1).1, (houGo x.1 x.2.1).2, ())) (fun x => goPre x.1 x.2.1) Qbt (fun x => audSm x.1 && smA x.2.1.2.2.2.2.2.2) k x = some (fn x)) /\ (fun (x : In_bx) (v : Out_bx) => Step 4000 x.1 v.2.2.1 /\ houOk v.1 = true) x (fn x) := by
 refine Qax (fun k x => E_bx Qau (fun x => rdB 1 x.1) (fun x => (houNew x.1, ())) (fun x => decide (List.length x.1 <= 4294967296)) Qaa (fun x => rdB 1 x.1) Qay (fun x => rdB 90 x.1 && houOk x.2.1) (fun x => (x.1, ())) (fun x => houSm x.1) (fun x => ((houGo x.1 x.2.1).1, (houGo x.1 x.2.1).2, ())) (fun x => goPre x.1 x.2.1) Qbt (fun x => audSm x.1 && smA x.2.1.2.2.2.2.2.2) k x) (fun x : In_bx => rdB 4000 x.1) (fun (x : In_bx) (v : Out_bx) => Step 4000 x.1 v.2.2.1 /\ houOk v.1 = true) (hou0, ([], (([], 0), ()))) fun x hx => ?_
 have key : ∀ (r0 : MRd), RdOk 4000 r0 -> WithFuel (fun k => E_bx Qau (fun x => rdB 1 x.1) (fun x => (houNew x.1, ())) (fun x => decide (List.length x.1 <= 4294967296)) Qaa (fun x => rdB 1 x.1) Qay (fun x => rdB 90 x.1 && houOk x.2.1) (fun x => (x.1, ())) (fun x => houSm x.1) (fun x => ((houGo x.1 x.2.1).1, (houGo x.1 x.2.1).2, ())) (fun x => goPre x.1 x.2.1) Qbt (fun x => audSm x.1 && smA x.2.1.2.2.2.2.2.2) k (r0, ())) (fun v => Step 4000 r0 v.2.2.1 /\ houOk v.1 = true) := by
  intro r0 h0
  suffices hl : ∀ (n : Nat) (h : MHou) (r : MRd), n <= 40 -> houOk h = true -> Step 3 r0 r -> WithFuel (fun k => r_bx Qau (fun x => rdB 1 x.1) (fun x => (houNew x.1, ())) (fun x => decide (List.length x.1 <= 4294967296)) Qaa (fun x => rdB 1 x.1) Qay (fun x => rdB 90 x.1 && houOk x.2.1) (fun x => (x.1, ())) (fun x => houSm x.1) (fun x => ((houGo x.1 x.2.1).1, (houGo x.1 x.2.1).2, ())) (fun x => goPre x.1 x.2.1) Qbt (fun x => audSm x.1 && smA x.2.1.2.2.2.2.2.2) (r0, ()) k pt2 (h0_bx r0 (n : Int) [] [] [] h r [])) (fun v => Step 4000 r0 v.2.2.1 /\ houOk v.1 = true) by
   have hg : Gets (some ()) (fun _ => ∃ (n : Nat) (h : MHou) (r : MRd), n <= 40 /\ houOk h = true /\ Step 3 r0 r /\ ∀ k, Gets (r_bx Qau (fun x => rdB 1 x.1) (fun x => (houNew x.1, ())) (fun x => decide (List.length x.1 <= 4294967296)) Qaa (fun x => rdB 1 x.1) Qay (fun x => rdB 90 x.1 && houOk x.2.1) (fun x => (x.1, ())) (fun x => houSm x.1) (fun x => ((houGo x.1 x.2.1).1, (houGo x.1 x.2.1).2, ())) (fun x => goPre x.1 x.2.1) Qbt (fun x => audSm x.1 && smA x.2.1.2.2.2.2.2.2) (r0, ()) k pt2 (h0_bx r0 (n : Int) [] [] [] h r [])) (fun v => Step 4000 r0 v.2.2.1 /\ houOk v.1 = true) -> Gets (E_bx Qau (fun x => rdB 1 x.1) (fun x => (houNew x.1, ())) (fun x => decide (List.length x.1 <= 4294967296)) Qaa (fun x => rdB 1 x.1) Qay (fun x => rdB 90 x.1 && houOk x.2.1) (fun x => (x.1, ())) (fun x => houSm x.1) (fun x => ((houGo x.1 x.2.1).1, (houGo x.1 x.2.1).2, ())) (fun x => goPre x.1 x.2.1) Qbt (fun x => audSm x.1 && smA x.2.1.2.2.2.2.2.2) k (r0, ())) (fun v => Step 4000 r0 v.2.2.1 /\ houOk v.1 = true)) := by
    refine Qac ?_
    obtain ⟨e1, e2⟩ := Qom r0 () (h0.mono (by decide))
    have e2 : rolesOk (Qau (r0, ())).1 = true := e2
    have hs1 : Step 1 r0 (Qau (r0, ())).2.1 := e1
    obtain ⟨e3, e4⟩ := Qaf (Qau (r0, ())).2.1 ((40 : Int), ()) (hs1.ok h0 (by decide))
    have hs2 := hs1.trans e3
    obtain ⟨e5, e6⟩ := Qaf (Qaa ((Qau (r0, ())).2.1, ((40 : Int), ()))).2.1 ((5 : Int), ()) (hs2.ok h0 (by decide))
    have hs3 := hs2.trans e5
    obtain ⟨n, hn, hne⟩ := Qr3 e6 e4
    have hro : houOk ((Qau (r0, ())).1, [], []) = true := Qr0 e2
    have hnew : houNew (Qau (r0, ())).1 = ((Qau (r0, ())).1, [], []) := by unfold houNew; rw [e2]; rfl
    refine ⟨n, _, _, hn, hro, hs3, fun k hk => ?_⟩
    rw [ev_bx k r0]
    refine Qah (Qas.2 (h0.mono (by decide))) ?_
    refine Qah (decide_eq_true (show List.length (Qau (r0, ())).1 <= 4294967296 by have := (Qgh.1 e2).1; omega)) ?_
    refine Qah (Qas.2 (hs1.ok h0 (by decide))) ?_
    refine Qah (Qas.2 (hs2.ok h0 (by decide))) ?_
    refine Qab (Qc4 e6 (by decide) (by exact Int.le_refl _)) ?_
    dsimp only
    rw [hnew, hne]
    exact hk
   obtain ⟨_, _, n, h, r, h1, h2, h3, h4⟩ := hg
   obtain ⟨k, hk⟩ := hl n h r h1 h2 h3
   exact ⟨k, h4 k hk⟩
  intro n h r hn hh hs
  have := Qey (σ := MHou × MRd × List MAud) n (fun k i s => r_bx Qau (fun x => rdB 1 x.1) (fun x => (houNew x.1, ())) (fun x => decide (List.length x.1 <= 4294967296)) Qaa (fun x => rdB 1 x.1) Qay (fun x => rdB 90 x.1 && houOk x.2.1) (fun x => (x.1, ())) (fun x => houSm x.1) (fun x => ((houGo x.1 x.2.1).1, (houGo x.1 x.2.1).2, ())) (fun x => goPre x.1 x.2.1) Qbt (fun x => audSm x.1 && smA x.2.1.2.2.2.2.2.2) (r0, ()) k pt2 (h0_bx r0 ((n - i : Nat) : Int) [] [] [] s.1 s.2.1 s.2.2)) (fun v => Step 4000 r0 v.2.2.1 /\ houOk v.1 = true) (fun i s => houOk s.1 = true /\ Step (3 + 90 * i) r0 s.2.1 /\ List.length s.2.2 <= i /\ ∀ a ∈ s.2.2, smA a.1.2.2.2.2.2.2 = true) (fun s hi => ?_) (fun i s hlt hi next => ?_) n 0 (h, r, []) (by omega) ⟨hh, hs, Nat.le_refl _, fun a ha => by cases ha⟩
  ·exact this
  ·obtain ⟨i1, i2, i3, i4⟩ := hi
   refine ⟨1, ?_⟩
   show Gets (r_bx Qau (fun x => rdB 1 x.1) (fun x => (houNew x.1, ())) (fun x => decide (List.length x.1 <= 4294967296)) Qaa (fun x => rdB 1 x.1) Qay (fun x => rdB 90 x.1 && houOk x.2.1) (fun x => (x.1, ())) (fun x => houSm x.1) (fun x => ((houGo x.1 x.2.1).1, (houGo x.1 x.2.1).2, ())) (fun x => goPre x.1 x.2.1) Qbt (fun x => audSm x.1 && smA x.2.1.2.2.2.2.2.2) (r0, ()) (0 + 1) pt2 (h0_bx r0 ((n - n : Nat) : Int) [] [] [] s.1 s.2.1 s.2.2)) _
   rw [Nat.sub_self, rd0_bx]
   exact Qac ⟨i2.mono (by omega), i1⟩
  ·obtain ⟨i1, i2, i3, i4⟩ := hi
   obtain ⟨h, r, l⟩ := s
   have i1 : houOk h = true := i1
   have i2 : Step (3 + 90 * i) r0 r := i2
   have i3 : List.length l <= i := i3
   obtain ⟨q1, q2⟩ := Qsi r (h, ()) (i2.ok h0 (by omega)) i1
   have q2 : ReqD (Qay (r, (h, ()))).1 := q2
   have hs2 := i2.trans q1
   have hsm := Qs9 i1
   have htests : smA (Qay (r, (h, ()))).1.2.2.2.2.2.2 = true := decide_eq_true (Nat.le_trans q2.2.2.1 (by decide))
   have hgo : goPre h (Qay (r, (h, ()))).1 = true := Qmi.2 ⟨Qhl.2 ⟨hsm, (Qbs.1 i1).2.2.1⟩, htests, q2.1.1, q2.2.1.1⟩
   have hok2 := Qr2 i1 q2.g
   have haud : (audSm l && smA (Qay (r, (h, ()))).1.2.2.2.2.2.2) = true := Bool.and_eq_true_iff.2 ⟨Qmj.2 ⟨by omega, i4⟩, htests⟩
   have hput := Qse (l, (Qay (r, (h, ()))).1, ()) haud
   have hw : w64 (((n - i : Nat) : Int) - 1) = ((n - (i + 1) : Nat) : Int) := by rw [Qak (by omega) (by omega)]; omega
   cases hc : decide ((houGo h (Qay (r, (h, ()))).1).2 = 1)
   ·obtain ⟨k, hk⟩ := next (h, (Qay (r, (h, ()))).2.1, l) ⟨i1, hs2.mono (by omega), Nat.le_succ_of_le i3, i4⟩
    refine ⟨k + 1, ?_⟩
    show Gets (r_bx Qau (fun x => rdB 1 x.1) (fun x => (houNew x.1, ())) (fun x => decide (List.length x.1 <= 4294967296)) Qaa (fun x => rdB 1 x.1) Qay (fun x => rdB 90 x.1 && houOk x.2.1) (fun x => (x.1, ())) (fun x => houSm x.1) (fun x => ((houGo x.1 x.2.1).1, (houGo x.1 x.2.1).2, ())) (fun x => goPre x.1 x.2.1) Qbt (fun x => audSm x.1 && smA x.2.1.2.2.2.2.2.2) (r0, ()) (k + 1) pt2 (h0_bx r0 ((n - i : Nat) : Int) [] [] [] h r l)) _
    rw [rd0_bx, hw, decide_eq_true (show (0 : Int) < ((n - i : Nat) : Int) by omega), cond_true]
    refine Qah (Bool.and_eq_true_iff.2 ⟨Qas.2 (i2.ok h0 (by omega)), i1⟩) (Qah hsm (Qah hgo ?_))
    dsimp only
    rw [hc]
    exact hk
   ·obtain ⟨k, hk⟩ := next ((houGo h (Qay (r, (h, ()))).1).1, (Qay (r, (h, ()))).2.1, (Qbt (l, (Qay (r, (h, ()))).1, ())).1) ⟨hok2, hs2.mono (by omega), by have := hput.1; dsimp only at this ⊢; omega, hput.2⟩
    refine ⟨k + 1, ?_⟩
    show Gets (r_bx Qau (fun x => rdB 1 x.1) (fun x => (houNew x.1, ())) (fun x => decide (List.length x.1 <= 4294967296)) Qaa (fun x => rdB 1 x.1) Qay (fun x => rdB 90 x.1 && houOk x.2.1) (fun x => (x.1, ())) (fun x => houSm x.1) (fun x => ((houGo x.1 x.2.1).1, (houGo x.1 x.2.1).2, ())) (fun x => goPre x.1 x.2.1) Qbt (fun x => audSm x.1 && smA x.2.1.2.2.2.2.2.2) (r0, ()) (k + 1) pt2 (h0_bx r0 ((n - i : Nat) : Int) [] [] [] h r l)) _
    rw [rd0_bx, hw, decide_eq_true (show (0 : Int) < ((n - i : Nat) : Int) by omega), cond_true]
    refine Qah (Bool.and_eq_true_iff.2 ⟨Qas.2 (i2.ok h0 (by omega)), i1⟩) (Qah hsm (Qah hgo ?_))
    dsimp only
    rw [hc, cond_true]
    exact Qah haud hk
 exact key x.1 (Qas.1 hx)
noncomputable def Qa3 := Classical.choose Qgq
theorem Qon (x : In_bx) (hx : (fun x : In_bx => rdB 4000 x.1) x = true) : (fun (x : In_bx) (v : Out_bx) => Step 4000 x.1 v.2.2.1 /\ houOk v.1 = true) x (Qa3 x) := (Classical.choose_spec Qgq x hx).2
theorem s_bx : C_bx (fun x => rdB 4000 x.1) Qa3 := S_bx s_a2 s_a4 s_a1 s_ao s_as s_bl s_bw fun x hx => (Classical.choose_spec Qgq x hx).1
theorem Qjg (r : MRd) (a : Unit) (h : RdOk 4000 r) : Step 4000 r (Qa3 (r, a)).2.2.1 /\ (fun (a : Unit) (y : MHou) => houOk y = true) a (Qa3 (r, a)).1 := Qon (r, a) (Qas.2 h)
end Go.Proofs.YtddpemilmeijfaaGreat

set_option linter.unusedVariables false
set_option linter.unusedSimpArgs false
namespace Go.Proofs.YtddpemilmeijfaaGreat
open Go.Vm
theorem Qut {n : Nat} (h : decide ((0 : Int) < (n : Int)) = true) : (bif decide ((0 : Int) <= (1 : Int)) then decide ((1 : Int) <= (n : Int)) else false) = true := by
 have := of_decide_eq_true h
 exact decide_eq_true (show (1 : Int) <= (n : Int) by omega)
theorem Que {n : Nat} (h : decide ((0 : Int) < (n : Int)) = true) : (bif decide ((0 : Int) <= (0 : Int)) then decide ((0 : Int) < (n : Int)) else false) = true := h
theorem _root_.List.length_drop_le' {α : Type} (l : List α) (i : Nat) : (l.drop i).length <= l.length := by rw [List.length_drop]; omega
theorem Qgr : ∃ fn : In_bz -> Out_bz, ∀ x, (fun x : In_bz => rdB 50 x.1 && batOk x.2.1) x = true -> (∃ k, E_bz (fun x => (x.1, ())) (fun x => smB x.1) Qaa (fun x => rdB 1 x.1) (fun x => (batMark x.1, ())) (fun x => smB x.1) Qc9 (fun x => rdB 40 x.1) k x = some (fn x)) /\ (fun (x : In_bz) (v : Out_bz) => Step 50 x.1 v.2.1 /\ BatDr v.1) x (fn x) := by
 refine Qax (fun k x => E_bz (fun x => (x.1, ())) (fun x => smB x.1) Qaa (fun x => rdB 1 x.1) (fun x => (batMark x.1, ())) (fun x => smB x.1) Qc9 (fun x => rdB 40 x.1) k x) (fun x : In_bz => rdB 50 x.1 && batOk x.2.1) (fun (x : In_bz) (v : Out_bz) => Step 50 x.1 v.2.1 /\ BatDr v.1) (batNone, (([], 0), ())) fun x hx => ?_
 have key : ∀ (r0 : MRd) (b : MBat), RdOk 50 r0 -> batOk b = true -> Gets (E_bz (fun x => (x.1, ())) (fun x => smB x.1) Qaa (fun x => rdB 1 x.1) (fun x => (batMark x.1, ())) (fun x => smB x.1) Qc9 (fun x => rdB 40 x.1) 0 (r0, b, ())) (fun v => Step 50 r0 v.2.1 /\ BatDr v.1) := by
  intro r0 b h0 hb
  obtain ⟨hT, hS, hD⟩ := Qnt hb
  have hsm : smB b = true := Qf9 hb
  have hs := Step.refl r0
  have hS7 : List.length b.2.2.2.2.1 <= 7 := by omega
  have hD4 : List.length b.2.2.2.2.2 <= 4 := by omega
  have hfS : ∀ z, fitL b.2.2.2.2.1 [z] = true := fun z => Qaz (by show List.length b.2.2.2.2.1 + 1 <= _; omega)
  have hfD : ∀ z, fitL b.2.2.2.2.2 [z] = true := fun z => Qaz (by show List.length b.2.2.2.2.2 + 1 <= _; omega)
  rw [ev_bz 0 r0 b]
  refine Qah hsm ?_
  dsimp only
  repeat' first
   | with_reducible refine Qam (Q := PickQ) Qaf h0 rfl (by assumption) (by decide) fun y r' hq hs => ?_
   | with_reducible refine Qam (Q := fun a y => List.length y.2.2.2.2 <= 3 /\ tS y) Qqf h0 rfl (by assumption) (by decide) fun y r' hq hs => ?_
   | with_reducible refine Qah hsm ?_
   | refine Qab (Qc4 (by assumption) (by decide) (by exact Int.le_refl _)) ?_
   | refine Qab (hfS _) ?_
   | refine Qab (hfD _) ?_
   | with_reducible refine Qbr ?_
   | with_reducible refine Qac ⟨Step.mono (by assumption) (by decide), ?_⟩
   | exact ⟨hT, hS7, hD4⟩
   | exact ⟨TstsDr.nil, hS7, hD4⟩
   | exact ⟨TstsDr.set hT (by assumption), hS7, hD4⟩
   | exact ⟨hT, Qnu hS, hD4⟩
   | exact ⟨hT, hS7, Qnu hD⟩
   | exact ⟨hT, Nat.le_trans (List.length_drop_le' _ _) hS7, hD4⟩
   | (refine Qab (Qut (by assumption)) ?_)
   | (refine Qab (Que (by assumption)) ?_)
   | with_reducible refine Qae (fun hc => ?_) fun hc => ?_
 obtain ⟨hx1, hx2⟩ := Bool.and_eq_true_iff.1 hx
 exact ⟨0, key x.1 x.2.1 (Qas.1 hx1) hx2⟩
noncomputable def Qbp := Classical.choose Qgr
theorem Qoo (x : In_bz) (hx : (fun x : In_bz => rdB 50 x.1 && batOk x.2.1) x = true) : (fun (x : In_bz) (v : Out_bz) => Step 50 x.1 v.2.1 /\ BatDr v.1) x (Qbp x) := (Classical.choose_spec Qgr x hx).2
theorem s_bz : C_bz (fun x => rdB 50 x.1 && batOk x.2.1) Qbp := S_bz s_ar s_a1 s_ai s_by fun x hx => (Classical.choose_spec Qgr x hx).1
theorem Qjh (r : MRd) (a : MBat × Unit) (h : RdOk 50 r) (ha : (fun a : MBat × Unit => batOk a.1) a = true) : Step 50 r (Qbp (r, a)).2.1 /\ (fun (a : MBat × Unit) (y : MBat) => BatDr y) a (Qbp (r, a)).1 := Qoo (r, a) (Bool.and_eq_true_iff.2 ⟨Qas.2 h, ha⟩)
theorem Qgs : ∃ fn : In_c0 -> Out_c0, ∀ x, (fun x : In_c0 => rdB 29000 x.1) x = true -> (∃ k, E_c0 Qa3 (fun x => rdB 4000 x.1) Qa6 (fun x => rdB 76 x.1) (fun x => (batNew x.1 x.2.1 x.2.2.1, ())) (fun x => smA x.2.1) Qaa (fun x => rdB 1 x.1) Qbp (fun x => rdB 50 x.1 && batOk x.2.1) k x = some (fn x)) /\ (fun (x : In_c0) (v : Out_c0) => Step 29000 x.1 v.2.1 /\ BatDr v.1) x (fn x) := by
 refine Qax (fun k x => E_c0 Qa3 (fun x => rdB 4000 x.1) Qa6 (fun x => rdB 76 x.1) (fun x => (batNew x.1 x.2.1 x.2.2.1, ())) (fun x => smA x.2.1) Qaa (fun x => rdB 1 x.1) Qbp (fun x => rdB 50 x.1 && batOk x.2.1) k x) (fun x : In_c0 => rdB 29000 x.1) (fun (x : In_c0) (v : Out_c0) => Step 29000 x.1 v.2.1 /\ BatDr v.1) (batNone, (([], 0), ())) fun x hx => ?_
 have key : ∀ (r0 : MRd) (n : Int), RdOk 29000 r0 -> WithFuel (fun k => E_c0 Qa3 (fun x => rdB 4000 x.1) Qa6 (fun x => rdB 76 x.1) (fun x => (batNew x.1 x.2.1 x.2.2.1, ())) (fun x => smA x.2.1) Qaa (fun x => rdB 1 x.1) Qbp (fun x => rdB 50 x.1 && batOk x.2.1) k (r0, n, ())) (fun v => Step 29000 r0 v.2.1 /\ BatDr v.1) := by
  intro r0 n h0
  obtain ⟨e1, e2⟩ := Qjg r0 () (h0.mono (by decide))
  have e2 : houOk (Qa3 (r0, ())).1 = true := e2
  -- what follows the rounds
  have fin : ∀ (h : MHou) (r : MRd), houOk h = true -> Step 28000 r0 r -> ∀ (A : Option (MBat × MRd × Unit)), A = A -> True := fun _ _ _ _ _ _ => trivial
  have hl := Qey (σ := MHou × MRd) 6 (fun k i s => r_c0 Qa3 (fun x => rdB 4000 x.1) Qa6 (fun x => rdB 76 x.1) (fun x => (batNew x.1 x.2.1 x.2.2.1, ())) (fun x => smA x.2.1) Qaa (fun x => rdB 1 x.1) Qbp (fun x => rdB 50 x.1 && batOk x.2.1) (r0, n, ()) k pt0 (h0_c0 r0 n (i : Int) (0 : Int) (0 : Int) (0 : Int) [] [] [] s.1 s.2)) (fun v => Step 29000 r0 v.2.1 /\ BatDr v.1) (fun i s => houOk s.1 = true /\ Step (4000 + 4000 * i) r0 s.2) (fun s hi => ?_) (fun i s hlt hi next => ?_) 6 0 ((Qa3 (r0, ())).1, (Qa3 (r0, ())).2.2.1) (by omega) ⟨e2, e1.mono (by omega)⟩
  ·obtain ⟨k, hk⟩ := hl
   refine ⟨k, ?_⟩
   show Gets (E_c0 Qa3 (fun x => rdB 4000 x.1) Qa6 (fun x => rdB 76 x.1) (fun x => (batNew x.1 x.2.1 x.2.2.1, ())) (fun x => smA x.2.1) Qaa (fun x => rdB 1 x.1) Qbp (fun x => rdB 50 x.1 && batOk x.2.1) k (r0, n, ())) _
   rw [ev_c0 k r0 n]
   exact Qah (Qas.2 (h0.mono (by decide))) hk
  ·obtain ⟨h, r⟩ := s
   obtain ⟨hh, hs⟩ := hi
   have hh : houOk h = true := hh
   have hs : Step 28000 r0 r := hs
   refine ⟨1, ?_⟩
   show Gets (r_c0 Qa3 (fun x => rdB 4000 x.1) Qa6 (fun x => rdB 76 x.1) (fun x => (batNew x.1 x.2.1 x.2.2.1, ())) (fun x => smA x.2.1) Qaa (fun x => rdB 1 x.1) Qbp (fun x => rdB 50 x.1 && batOk x.2.1) (r0, n, ()) (0 + 1) pt0 (h0_c0 r0 n ((6 : Nat) : Int) (0 : Int) (0 : Int) (0 : Int) [] [] [] h r)) _
   rw [rd0_c0]
   repeat with_reducible refine Qbr ?_
   rw [show decide (((6 : Nat) : Int) < (6 : Int)) = false from rfl, cond_false]
   refine Qae (fun _ => ?_) fun hc => ?_
   ·refine Qam (Q := fun a y => 1 <= List.length y /\ List.length y <= 5) Qje h0 rfl hs (by decide) fun y r' hq hs => ?_
    refine Qah (show smA y = true from decide_eq_true (by omega)) ?_
    exact Qac ⟨hs.mono (by decide), Qr4 _ _ _ hq.2⟩
   ·refine Qam (Q := PickQ) Qaf h0 rfl hs (by decide) fun y r' hq hs => ?_
    have hy0 : 0 <= y := hq.1
    have hne := of_decide_eq_false hc
    have hy1 : y < (List.length h.2.2 : Int) := hq.2 (show (1 : Int) <= (List.length h.2.2 : Int) by omega)
    have hb := Qlh hh hy0 hy1
    repeat with_reducible refine Qbr ?_
    refine Qab (by rw [decide_eq_true hy0]; exact decide_eq_true hy1) ?_
    refine Qam (Q := PickQ) Qaf h0 rfl hs (by decide) fun y' r' hq' hs => ?_
    refine Qae (fun _ => ?_) fun _ => Qac ⟨hs.mono (by decide), BatDr.of hb⟩
    refine Qhh (pA := fun a : MBat × Unit => batOk a.1) (Q := fun a y => BatDr y) Qjh h0 rfl hb hs (by decide) fun z r' hq hs => ?_
    exact Qac ⟨hs.mono (by decide), hq⟩
  ·obtain ⟨h, r⟩ := s
   obtain ⟨hh, hs⟩ := hi
   have hh : houOk h = true := hh
   have hs : Step (4000 + 4000 * i) r0 r := hs
   obtain ⟨f1, f2⟩ := Qjg r () (hs.ok h0 (by omega))
   have f2 : houOk (Qa3 (r, ())).1 = true := f2
   obtain ⟨k, hk⟩ := next ((Qa3 (r, ())).1, (Qa3 (r, ())).2.2.1) ⟨f2, (hs.trans f1).mono (by omega)⟩
   have hs0 := hs
   have hs : Step 28000 r0 r := hs.mono (by omega)
   refine ⟨k + 1, ?_⟩
   show Gets (r_c0 Qa3 (fun x => rdB 4000 x.1) Qa6 (fun x => rdB 76 x.1) (fun x => (batNew x.1 x.2.1 x.2.2.1, ())) (fun x => smA x.2.1) Qaa (fun x => rdB 1 x.1) Qbp (fun x => rdB 50 x.1 && batOk x.2.1) (r0, n, ()) (k + 1) pt0 (h0_c0 r0 n (i : Int) (0 : Int) (0 : Int) (0 : Int) [] [] [] h r)) _
   rw [rd0_c0]
   repeat with_reducible refine Qbr ?_
   rw [decide_eq_true (show (i : Int) < 6 by omega), cond_true, Qan (by omega)]
   refine Qae (fun _ => Qah (Qas.2 (hs0.ok h0 (by omega))) hk) fun hc => ?_
   rw [hc]
   rw [cond_false]
   refine Qam (Q := PickQ) Qaf h0 rfl hs (by decide) fun y r' hq hs => ?_
   have hy0 : 0 <= y := hq.1
   have hne := of_decide_eq_false hc
   have hy1 : y < (List.length h.2.2 : Int) := hq.2 (show (1 : Int) <= (List.length h.2.2 : Int) by omega)
   have hb := Qlh hh hy0 hy1
   repeat with_reducible refine Qbr ?_
   refine Qab (by rw [decide_eq_true hy0]; exact decide_eq_true hy1) ?_
   refine Qam (Q := PickQ) Qaf h0 rfl hs (by decide) fun y' r' hq' hs => ?_
   refine Qae (fun _ => ?_) fun _ => Qac ⟨hs.mono (by decide), BatDr.of hb⟩
   refine Qhh (pA := fun a : MBat × Unit => batOk a.1) (Q := fun a y => BatDr y) Qjh h0 rfl hb hs (by decide) fun z r' hq hs => ?_
   exact Qac ⟨hs.mono (by decide), hq⟩
 exact key x.1 x.2.1 (Qas.1 hx)
noncomputable def Qcr := Classical.choose Qgs
theorem Qop (x : In_c0) (hx : (fun x : In_c0 => rdB 29000 x.1) x = true) : (fun (x : In_c0) (v : Out_c0) => Step 29000 x.1 v.2.1 /\ BatDr v.1) x (Qcr x) := (Classical.choose_spec Qgs x hx).2
theorem s_c0 : C_c0 (fun x => rdB 29000 x.1) Qcr := S_c0 s_bx s_a8 s_b1 s_a1 s_bz fun x hx => (Classical.choose_spec Qgs x hx).1
theorem Qoq (r : MRd) (a : Int × Unit) (h : RdOk 29000 r) : Step 29000 r (Qcr (r, a)).2.1 /\ (fun (a : Int × Unit) (y : MBat) => BatDr y) a (Qcr (r, a)).1 := Qop (r, a) (Qas.2 h)
end Go.Proofs.YtddpemilmeijfaaGreat

set_option linter.unusedVariables false
set_option linter.unusedSimpArgs false
namespace Go.Proofs.YtddpemilmeijfaaGreat
open Go.Vm
theorem Quf {S : Sh} {xs : List S.den} {i : Int} (h0 : 0 <= i) (h1 : i < (xs.length : Int)) : rdL (e := S) xs i ∈ xs := by
 obtain ⟨n, rfl⟩ : ∃ n : Nat, i = (n : Int) := ⟨i.toNat, by omega⟩
 have hn : n < xs.length := by omega
 rw [Qag (List.drop_eq_getElem_cons hn)]
 exact List.getElem_mem hn
theorem Qef : ∃ fn : In_c1 -> Out_c1, ∀ x, (fun x : In_c1 => bytesB x.1) x = true -> (∃ k, E_c1 Qd8 (fun x => bytesB x.1) Qcr (fun x => rdB 29000 x.1) Qaa (fun x => rdB 1 x.1) Qbh (fun x => rdB 7 x.1) Qa7 (fun x => rdB 2 x.1) k x = some (fn x)) /\ (fun (x : In_c1) (v : Out_c1) => BatDr v.1) x (fn x) := by
 refine Qax (fun k x => E_c1 Qd8 (fun x => bytesB x.1) Qcr (fun x => rdB 29000 x.1) Qaa (fun x => rdB 1 x.1) Qbh (fun x => rdB 7 x.1) Qa7 (fun x => rdB 2 x.1) k x) (fun x : In_c1 => bytesB x.1) (fun (x : In_c1) (v : Out_c1) => BatDr v.1) (batNone, 0, 0, (0, 0), 0, ()) fun x hx => ?_
 have key : ∀ xs : List Int, bytesB xs = true -> Gets (E_c1 Qd8 (fun x => bytesB x.1) Qcr (fun x => rdB 29000 x.1) Qaa (fun x => rdB 1 x.1) Qbh (fun x => rdB 7 x.1) Qa7 (fun x => rdB 2 x.1) 0 (xs, ())) (fun v => BatDr v.1) := by
  intro xs h
  rw [ev_c1 0 xs]
  refine Qs3 (Q := fun r => RdOk 1000000 r) h (Qqe (xs, ()) h) fun r0 h0 => ?_
  have hs := Step.refl r0
  refine Qam (Q := fun a y => BatDr y) Qoq h0 rfl hs (by decide) fun b r' hb hs => ?_
  refine Qam (Q := PickQ) Qaf h0 rfl hs (by decide) fun y1 r' _ hs => ?_
  refine Qam (Q := PickQ) Qaf h0 rfl hs (by decide) fun y2 r' _ hs => ?_
  refine Qam (Q := fun a y => True) Qga h0 rfl hs (by decide) fun y3 r' _ hs => ?_
  have fin : ∀ {c : Nat} {r : MRd} (A : MBat × Int × Int × MDec × Int × Unit -> Prop), True := fun _ => trivial
  refine Qae (fun hc => ?_) fun _ => ?_
  ·have hc : (0 : Int) < (List.length b.2.2.1 : Int) := of_decide_eq_true hc
   refine Qam (Q := PickQ) Qaf h0 rfl hs (by decide) fun y4 r' _ hs => ?_
   refine Qae (fun _ => ?_) fun _ => ?_
   ·refine Qam (Q := PickQ) Qaf h0 rfl hs (by decide) fun z r' hz hs => ?_
    have hz0 : 0 <= z := hz.1
    have hz1 : z < (List.length b.2.2.1 : Int) := hz.2 (show (1 : Int) <= (List.length b.2.2.1 : Int) by omega)
    refine Qab (Qc4 hz (show (1 : Int) <= (List.length b.2.2.1 : Int) by omega) (Int.le_refl _)) ?_
    have hm : tS (rdL (e := S_TstTest) b.2.2.1 z) := (hb.1.2 _ (Quf hz0 hz1)).2
    generalize rdL (e := S_TstTest) b.2.2.1 z = t at hm ⊢
    obtain ⟨t1, t2, t3⟩ := t
    change Int at t2
    have hm : -1 <= t2 /\ t2 <= 5 := hm
    refine Qam (Q := fun a y => True) Qem h0 rfl hs (by decide) fun y5 r' _ hs => ?_
    refine Qab rfl (Qab ?_ ?_)
    ·show (bif decide ((0 : Int) <= Int.tmod (w64 (t2 + (5 : Int))) (5 : Int)) then decide (Int.tmod (w64 (t2 + (5 : Int))) (5 : Int) < 5) else false) = true
     rw [Qak (by omega) (by omega), decide_eq_true (Int.tmod_nonneg _ (by omega))]
     exact decide_eq_true (Int.tmod_lt_of_pos _ (by omega))
    ·exact Qam (Q := PickQ) Qaf h0 rfl hs (by decide) fun y6 r' _ hs => Qac hb
   ·exact Qam (Q := PickQ) Qaf h0 rfl hs (by decide) fun y6 r' _ hs => Qac hb
  ·exact Qam (Q := PickQ) Qaf h0 rfl hs (by decide) fun y6 r' _ hs => Qac hb
 exact ⟨0, key x.1 hx⟩
noncomputable def Qeg := Classical.choose Qef
theorem Qli (x : In_c1) (hx : (fun x : In_c1 => bytesB x.1) x = true) : (fun (x : In_c1) (v : Out_c1) => BatDr v.1) x (Qeg x) := (Classical.choose_spec Qef x hx).2
theorem s_c1 : C_c1 (fun x => bytesB x.1) Qeg := S_c1 s_a0 s_c0 s_a1 s_a6 s_af fun x hx => (Classical.choose_spec Qef x hx).1
end Go.Proofs.YtddpemilmeijfaaGreat

set_option linter.unusedVariables false
set_option linter.unusedSimpArgs false
namespace Go.Proofs.YtddpemilmeijfaaGreat
open Go.Vm
theorem s_lFnBatShut : C_lFnBatShut (lawPre _) (fun _ => (true, ())) := S_lFnBatShut s_c1 s_bb s_d6 s_da s_dt s_bg s_dw s_dx s_e0 s_e3 fun x hx => ⟨0, (ev_lFnBatShut 0 x.1).trans (by
 have hb : bytesB x.1 = true := Qs4 (Qko.1 hx).1.2
 have hd := Qli (x.1, ()) hb
 refine Qro (Qae (fun _ => Qac rfl) fun _ => Qah hb ?_)
 generalize Qeg (x.1, ()) = D at hd ⊢
 obtain ⟨b, n, w, v, c, u⟩ := D
 change MBat at b
 change Int at n
 change Int at w
 change MDec at v
 change Int at c
 have hd : BatDr b := hd
 have h1 : smB b = true := hd.sm
 refine Qah h1 ?_
 dsimp only
 cases hk : batOk b
 ·rw [cond_false, cond_true]
  refine Qah h1 ?_
  dsimp only
  exact Qac rfl
 ·rw [cond_true, cond_false]
  have hsx : smB (batTest b n w v c).1 = true := Qf9 (Qe8 (u := 0) (o := 0) hk).ok
  refine Qah h1 (Qah h1 ?_)
  dsimp only
  refine Qah hsx ?_
  dsimp only
  rw [Qaw, beq_self_eq_true, cond_true, cond_false, cond_false]
  by_cases ho : b.2.2.2.1 = 1
  ·rw [decide_eq_true ho, cond_true]
   have e := Qog hk ho
   have h2 : smB (b.1, b.2.1, b.2.2.1, 3, b.2.2.2.2.1, b.2.2.2.2.2) = true := h1
   have hn : ((b.1, b.2.1, b.2.2.1, (3 : Int), b.2.2.2.2.1, b.2.2.2.2.2) : MBat).2.2.2.1 ≠ 1 := by show (3 : Int) ≠ 1; decide
   refine Qah h1 ?_
   dsimp only
   rw [e]
   dsimp only
   refine Qah h2 (Qah h2 (Qah h2 ?_))
   dsimp only
   rw [Qmf hn, Qmg hn, Qny hn]
   exact Qac rfl
  ·rw [decide_eq_false ho, cond_false]
   refine Qah h1 (Qah h1 ?_)
   dsimp only
   rw [Qmf ho, Qmg ho, Qny ho]
   refine Qah h1 ?_
   dsimp only
   rw [Qaw]
   exact Qac rfl)⟩
end Go.Proofs.YtddpemilmeijfaaGreat
