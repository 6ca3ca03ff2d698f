/- The functions that FnExactCerOf reaches: what each of them answers, part 1. Conditions stand in each contract. -/
import Derived.Test.YtijolcgmciclhaaFnExactCerOfEq0
import Derived.Test.YtijolcgmciclhaaFnExactCerOfMoA
set_option linter.unusedVariables false
set_option linter.unusedSimpArgs false
namespace Go.Proofs.Ytijolcgmciclhaa
open Go.Vm

theorem s_iin : C_iin (fun _ => true) (fun x => (inq x.1 x.2.1 x.2.2.1, ())) := S_iin fun x _ => ⟨0, (ev_iin 0 x.1 x.2.1 x.2.2.1).trans (by
  simp only [Qbr, Qbs, Qb2]; rfl)⟩
theorem s_af : C_af (fun _ => true) (fun x => (inq x.1 x.2.1 x.2.2.1, ())) := S_af fun x _ => ⟨0, (ev_af 0 x.1 x.2.1 x.2.2.1).trans (by
  simp only [Qbr, Qbs, Qb2]; rfl)⟩

/-- Ten, so many times. -/
theorem Qke {i : Nat} (h : i < 18) : w64 ((10 : Int) ^ i * (10 : Int)) = 10 ^ (i + 1) := by
  have : (10 : Int) ^ (i + 1) <= 10 ^ 18 := by exact_mod_cast Nat.pow_le_pow_right (by decide) (by omega)
  have h2 : (0 : Int) < 10 ^ (i + 1) := Int.pow_pos (by decide)
  rw [<- Int.pow_succ, Qad (by omega) (by omega)]

theorem p_b1 (n : Int) (hn : n <= 18) : r_b1 (n, ()) (n.toNat + 1) pt0 (h0_b1 n (1 : Int) (0 : Int)) = some (pw n, ()) := by
  by_cases h0 : n <= 0
  · have : n.toNat = 0 := by omega
    rw [this, rd0_b1]
    have : decide ((0 : Int) < n) = false := decide_eq_false (by omega)
    rw [this]
    show some ((1 : Int), ()) = _
    unfold pw
    rw [show n.toNat = 0 by omega]; rfl
  · have hc : (n.toNat : Int) = n := by omega
    refine Qey (σ := Unit) n.toNat (fun k i _ => r_b1 (n, ()) k pt0 (h0_b1 n ((10 : Int) ^ i) (i : Int))) (fun _ _ => (pw n, ())) (fun _ _ => True) (fun k s _ => ?_) (fun k i s hi _ => ?_) n.toNat 0 () (by omega) trivial
    · rw [rd0_b1, show decide ((n.toNat : Int) < n) = false from decide_eq_false (by omega)]
      rfl
    · refine .inr ⟨(), trivial, ?_, rfl⟩
      rw [rd0_b1, show decide ((i : Int) < n) = true from decide_eq_true (by omega), Qke (by omega), Qag (by omega)]
      rfl
theorem s_b1 : C_b1 (fun x => decide (x.1 <= 18)) (fun x => (pw x.1, ())) := S_b1 fun x hx => ⟨_, (ev_b1 _ x.1).trans (p_b1 x.1 (of_decide_eq_true hx))⟩
theorem p_ag (n : Int) (hn : n <= 18) : r_ag (n, ()) (n.toNat + 1) pt0 (h0_ag n (1 : Int) (0 : Int)) = some (pw n, ()) := by
  by_cases h0 : n <= 0
  · have : n.toNat = 0 := by omega
    rw [this, rd0_ag]
    have : decide ((0 : Int) < n) = false := decide_eq_false (by omega)
    rw [this]
    show some ((1 : Int), ()) = _
    unfold pw
    rw [show n.toNat = 0 by omega]; rfl
  · have hc : (n.toNat : Int) = n := by omega
    refine Qey (σ := Unit) n.toNat (fun k i _ => r_ag (n, ()) k pt0 (h0_ag n ((10 : Int) ^ i) (i : Int))) (fun _ _ => (pw n, ())) (fun _ _ => True) (fun k s _ => ?_) (fun k i s hi _ => ?_) n.toNat 0 () (by omega) trivial
    · rw [rd0_ag, show decide ((n.toNat : Int) < n) = false from decide_eq_false (by omega)]
      rfl
    · refine .inr ⟨(), trivial, ?_, rfl⟩
      rw [rd0_ag, show decide ((i : Int) < n) = true from decide_eq_true (by omega), Qke (by omega), Qag (by omega)]
      rfl
theorem s_ag : C_ag (fun x => decide (x.1 <= 18)) (fun x => (pw x.1, ())) := S_ag fun x hx => ⟨_, (ev_ag _ x.1).trans (p_ag x.1 (of_decide_eq_true hx))⟩
theorem Qdk {n d : Int} (h : nrPre n d = true) (h0 : 0 <= n) : w64 (Int.tdiv (w64 (w64 ((2 : Int) * n) + d)) (w64 ((2 : Int) * d))) = near n d /\ decide (w64 ((2 : Int) * d) = (0 : Int)) = false /\ 0 <= near n d /\ near n d <= 2000000000000000 := by
  obtain ⟨⟨h1, h2⟩, h3, h4⟩ := Qbt.1 h
  have e1 : w64 ((2 : Int) * d) = 2 * d := Qad (by omega) (by omega)
  have e2 : w64 ((2 : Int) * n) = 2 * n := Qad (by omega) (by omega)
  have e3 : w64 (2 * n + d) = 2 * n + d := Qad (by omega) (by omega)
  have e4 : Int.tdiv (2 * n + d) (2 * d) = (2 * n + d) / (2 * d) := Int.tdiv_eq_ediv_of_nonneg (by omega)
  have a1 : 0 <= (2 * n + d) / (2 * d) := Int.ediv_nonneg (by omega) (by omega)
  have a2 : (2 * n + d) / (2 * d) <= n + d := by
    refine Int.ediv_le_of_le_mul (by omega) ?_
    have : n + d <= (n + d) * d := by
      have := Int.mul_le_mul_of_nonneg_left (show (1 : Int) <= d by omega) (show 0 <= n + d by omega)
      omega
    have e : (n + d) * (2 * d) = 2 * ((n + d) * d) := by rw [Int.mul_left_comm]
    omega
  have e5 : near n d = (2 * n + d) / (2 * d) := by unfold near; rw [if_neg (by omega)]
  rw [e1, e2, e3, e4, e5]
  exact ⟨Qad (by omega) (by omega), decide_eq_false (by omega), a1, by omega⟩

theorem Qjq {n d : Int} (h : n < 0) : near n d = -(near (-n) d) := by
  unfold near; rw [if_pos h, if_neg (by omega)]
theorem p_inearest_up {n d : Int} {g p} (h : nrPre n d = true) (h0 : 0 <= n) : E_b3 g p 0 (n, d, ()) = some (near n d, ()) := (ev_b3 0 n d).trans (by
  obtain ⟨h1, h2, _⟩ := Qdk h h0
  rw [show decide (n < (0 : Int)) = false from decide_eq_false (by omega), h2, h1]
  rfl)
theorem s_inearest_up : C_b3 (fun x => nrPre x.1 x.2.1 && decide (0 <= x.1)) (fun x => (near x.1 x.2.1, ())) := S_b3 (S0_b3 (fn := fun _ => (0, ()))) fun x hx => ⟨0, p_inearest_up (Bool.and_eq_true_iff.1 hx).1 (of_decide_eq_true (Bool.and_eq_true_iff.1 hx).2)⟩
theorem p_b3 {n d : Int} (hx : nrPre n d = true) : E_b3 (fun x => (near x.1 x.2.1, ())) (fun x => nrPre x.1 x.2.1 && decide (0 <= x.1)) 0 (n, d, ()) = some (near n d, ()) := by
  obtain ⟨⟨h1, h2⟩, h3, h4⟩ := Qbt.1 hx
  by_cases h0 : n < 0
  · refine (ev_b3 0 n d).trans ?_
    have e : w64 ((0 : Int) - n) = -n := by rw [Qad (by omega) (by omega)]; omega
    have hp : nrPre (-n) d = true := Qbt.2 ⟨⟨by omega, by omega⟩, h3, h4⟩
    obtain ⟨_, _, g1, g2⟩ := Qdk hp (by omega)
    rw [show decide (n < (0 : Int)) = true from decide_eq_true h0, e]
    simp only [cond_true, hp, show decide (0 <= -n) = true from decide_eq_true (by omega), Bool.and_self]
    rw [Qjq h0, show w64 ((0 : Int) - near (-n) d) = -near (-n) d from by rw [Qad (by omega) (by omega)]; omega]
  · exact p_inearest_up hx (by omega)
theorem s_b3 : C_b3 (fun x => nrPre x.1 x.2.1) (fun x => (near x.1 x.2.1, ())) := S_b3 s_inearest_up fun x hx => ⟨0, p_b3 hx⟩
theorem p_sl1Near_up {n d : Int} {g p} (h : nrPre n d = true) (h0 : 0 <= n) : E_ai g p 0 (n, d, ()) = some (near n d, ()) := (ev_ai 0 n d).trans (by
  obtain ⟨h1, h2, _⟩ := Qdk h h0
  rw [show decide (n < (0 : Int)) = false from decide_eq_false (by omega), h2, h1]
  rfl)
theorem s_sl1Near_up : C_ai (fun x => nrPre x.1 x.2.1 && decide (0 <= x.1)) (fun x => (near x.1 x.2.1, ())) := S_ai (S0_ai (fn := fun _ => (0, ()))) fun x hx => ⟨0, p_sl1Near_up (Bool.and_eq_true_iff.1 hx).1 (of_decide_eq_true (Bool.and_eq_true_iff.1 hx).2)⟩
theorem p_ai {n d : Int} (hx : nrPre n d = true) : E_ai (fun x => (near x.1 x.2.1, ())) (fun x => nrPre x.1 x.2.1 && decide (0 <= x.1)) 0 (n, d, ()) = some (near n d, ()) := by
  obtain ⟨⟨h1, h2⟩, h3, h4⟩ := Qbt.1 hx
  by_cases h0 : n < 0
  · refine (ev_ai 0 n d).trans ?_
    have e : w64 ((0 : Int) - n) = -n := by rw [Qad (by omega) (by omega)]; omega
    have hp : nrPre (-n) d = true := Qbt.2 ⟨⟨by omega, by omega⟩, h3, h4⟩
    obtain ⟨_, _, g1, g2⟩ := Qdk hp (by omega)
    rw [show decide (n < (0 : Int)) = true from decide_eq_true h0, e]
    simp only [cond_true, hp, show decide (0 <= -n) = true from decide_eq_true (by omega), Bool.and_self]
    rw [Qjq h0, show w64 ((0 : Int) - near (-n) d) = -near (-n) d from by rw [Qad (by omega) (by omega)]; omega]
  · exact p_sl1Near_up hx (by omega)
theorem s_ai : C_ai (fun x => nrPre x.1 x.2.1) (fun x => (near x.1 x.2.1, ())) := S_ai s_sl1Near_up fun x hx => ⟨0, p_ai hx⟩

end Go.Proofs.Ytijolcgmciclhaa

set_option linter.unusedVariables false
set_option linter.unusedSimpArgs false
namespace Go.Proofs.Ytijolcgmciclhaa
open Go.Vm

theorem s_b2 : C_b2 (fun _ => true) (fun x => (decOk x.1, ())) := S_b2 s_iin s_b1 fun x _ => ⟨0, (ev_b2 0 x.1).trans (p_decOk x.1)⟩
theorem s_ah : C_ah (fun _ => true) (fun x => (decOk x.1, ())) := S_ah s_af s_ag fun x _ => ⟨0, (ev_ah 0 x.1).trans (p_decOk x.1)⟩
theorem s_b4 : C_b4 (fun _ => true) (fun x => (decAt x.1 x.2.1, ())) := S_b4 s_b2 s_iin s_b1 s_b3 fun x _ => ⟨0, (ev_b4 0 x.1 x.2.1).trans (p_decAt x.1 x.2.1 _ fun h1 h2 => p_atR h1 h2)⟩
theorem s_aj : C_aj (fun x => decOk x.1 && inq x.2.1 0 3) (fun x => (atR x.1 x.2.1, ())) := S_aj s_ag s_ai fun x hx => ⟨0, (ev_aj 0 x.1 x.2.1).trans (p_atR (Bool.and_eq_true_iff.1 hx).1 (Bool.and_eq_true_iff.1 hx).2)⟩
theorem s_b5 : C_b5 (fun _ => true) (fun _ => (false, ())) := S_b5 fun x _ => ⟨0, (ev_b5 0 x.1).trans (by
  rw [decide_eq_true rfl]; rfl)⟩
theorem s_b6 : C_b6 (fun _ => true) (fun x => (cmpI x.1 x.2.1, ())) := S_b6 s_b5 fun x _ => ⟨0, (ev_b6 0 x.1 x.2.1).trans (p_cmpI x.1 x.2.1)⟩
theorem s_b7 : C_b7 (fun _ => true) (fun x => (decCmp x.1 x.2.1, ())) := S_b7 s_b2 s_b4 s_b6 fun x _ => ⟨0, (ev_b7 0 x.1 x.2.1).trans (p_decCmp x.1 x.2.1 _ fun h1 h2 => by
  unfold decAt
  simp only [h1, h2, in03, Bool.and_self, cond_true])⟩
theorem s_ak : C_ak (fun _ => true) (fun x => (decCmp x.1 x.2.1, ())) := S_ak s_ah s_aj fun x _ => ⟨0, (ev_ak 0 x.1 x.2.1).trans (p_decCmp x.1 x.2.1 _ fun h1 h2 => by
  simp only [h1, h2, in03, Bool.and_self, cond_true]
  exact p_cmpI _ _)⟩
theorem s_b0 : C_b0 (fun _ => true) (fun x => (inq x.1 1 4, ())) := S_b0 s_iin fun x _ => ⟨0, ev_b0 0 x.1⟩
theorem s_b8 : C_b8 (fun _ => true) (fun x => (askOk x.1, ())) := S_b8 s_b0 s_b2 s_b7 s_iin fun x _ => ⟨0, (ev_b8 0 x.1).trans (by
  simp only [Qbr, Qbs, Qb2]; rfl)⟩
theorem s_al : C_al (fun _ => true) (fun x => (askOk x.1, ())) := S_al s_af s_ah s_ak fun x _ => ⟨0, (ev_al 0 x.1).trans (by
  simp only [Qbr, Qbs, Qb2]; rfl)⟩
theorem s_be : C_be (fun _ => true) (fun x => (spcIn x.1 x.2.1, ())) := S_be s_b8 s_b2 s_b4 s_b7 fun x _ => ⟨0, (ev_be 0 x.1 x.2.1).trans (p_spcIn x.1 x.2.1 _ fun h1 h2 => by
  have h3 := Qgk h1
  have e : decAt x.2.1 x.1.2.2.2 = atR x.2.1 x.1.2.2.2 := by unfold decAt; rw [h2, h3]; rfl
  simp only [e, Qbr, Qbs, Qb2])⟩
theorem s_an : C_an (fun _ => true) (fun x => (spcIn x.1 x.2.1, ())) := S_an s_al s_ah s_aj s_ak fun x _ => ⟨0, (ev_an 0 x.1 x.2.1).trans (p_spcIn x.1 x.2.1 _ fun h1 h2 => by
  simp only [h2, Qgk h1, Bool.and_self, cond_true, Qbr, Qbs, Qb2])⟩

end Go.Proofs.Ytijolcgmciclhaa

set_option linter.unusedVariables false
set_option linter.unusedSimpArgs false
namespace Go.Proofs.Ytijolcgmciclhaa
open Go.Vm

theorem s_a6 : C_a6 (fun _ => true) (fun x => (x.1, ())) := S_a6 fun x _ => ⟨0, ev_a6 0 x.1⟩
theorem s_a7 : C_a7 (fun _ => true) (fun x => (x.1, ())) := S_a7 s_a6 fun x _ => ⟨0, ev_a7 0 x.1⟩

theorem p_make {n : Nat} {α : Type} {X : Option α} (h : n <= 4294967296) : (bif (bif (bif (decide ((0 : Int) <= (n : Int))) then (decide ((n : Int) <= (BIG : Int))) else false) then (decide ((n : Int) = (n : Int))) else false) then X else none) = X := by
  rw [decide_eq_true (show (0 : Int) <= (n : Int) by omega), decide_eq_true (show (n : Int) <= (BIG : Int) by show (n : Int) <= ((4294967296 : Nat) : Int); omega), decide_eq_true rfl]; rfl

theorem s_c6 : C_c6 (fun _ => true) (fun x => (same x.1 x.2.1, ())) := S_c6 fun x _ => ⟨0, (ev_c6 0 x.1 x.2.1).trans (by
  simp only [Qa8, Qcr, Qbr, Qbs, Qb2, Qa0, Bool.and_true]
  exact congrArg (fun b => some (b, ())) (Qam _ _ _ _))⟩
theorem s_c7 : C_c7 (fun _ => true) (fun x => (same x.1 x.2.1, ())) := S_c7 s_c6 fun x _ => ⟨0, (ev_c7 0 x.1 x.2.1).trans (by
  simp only [Qa8, Qcr, Qbr, Qbs, Qb2, Qa0, Bool.and_true]
  refine congrArg (fun b => some (b, ())) ?_
  rw [Qam, Qam, Qam])⟩

/-- Two rows of one length, and the loop over them. -/
theorem p_eqS {α : Type} {xs ys : List α} {X : Option (Bool × Unit)} (h : xs.length = ys.length -> X = some (same xs ys, ())) : (bif (bif (decide ((xs.length : Int) = (ys.length : Int))) then false else true) then (some (false, ())) else X) = some (same xs ys, ()) := by
  by_cases hl : xs.length = ys.length
  · rw [decide_eq_true (by omega)]; exact h hl
  · rw [decide_eq_false (by omega), Qha fun e => hl (by rw [e])]; rfl

theorem s_c8 : C_c8 (fun x => decide (List.length x.1 <= 4294967296)) (fun x => (same x.1 x.2.1, ())) := S_c8 s_c7 fun x hx => ⟨List.length x.1 + 1, (ev_c8 _ x.1 x.2.1).trans (p_eqS fun hl => by
  have hx : List.length x.1 <= 4294967296 := of_decide_eq_true hx
  refine Qek (α := MAsk) x.1 x.2.1 hl (fun k i => r_c8 (fun x => (same x.1 x.2.1, ())) (x.1, x.2.1, ()) k pt0 (h0_c8 x.1 x.2.1 (i : Int))) (fun k => ?_) (fun k i y z r r' hd hd' hi hi' => ?_)
  · rw [rd0_c8, Qac (Nat.le_refl _)]; rfl
  · rw [rd0_c8, Qae hi, Qae hi', Qaf hi, Qag (by omega), Qab hd, Qab hd', Qa8, Qcr]; rfl)⟩

end Go.Proofs.Ytijolcgmciclhaa

set_option linter.unusedVariables false
set_option linter.unusedSimpArgs false
namespace Go.Proofs.Ytijolcgmciclhaa
open Go.Vm

theorem Qne (a b : MDec) : Sh.beq S_DecDec a b = same a b := by
  show (decide (a.1 = b.1) && decide (a.2 = b.2)) = _
  rw [Qa0, Qa0, Qam]

theorem s_b9 : C_b9 (fun _ => true) (fun x => (!decOk x.1, ())) := S_b9 s_b2 fun x _ => ⟨0, (ev_b9 0 x.1).trans (by simp only [Qa8])⟩
theorem s_ba : C_ba (fun x => decide (List.length x.1 <= 4294967296)) (fun x => (idxOf (fun d => !decOk d) x.1 0, ())) := S_ba s_b9 fun x hx => ⟨List.length x.1 + 1, (ev_ba _ x.1 x.2.1).trans (by
  have hx : List.length x.1 <= 4294967296 := of_decide_eq_true hx
  refine Qc2 (α := MDec) x.1 (fun d => !decOk d) (fun k i => r_ba (fun x => (!decOk x.1, ())) (x.1, x.2.1, ()) k pt1 (h0_ba x.1 x.2.1 (List.length x.1 : Int) (i : Int))) (fun k => ?_) (fun k i y r hd hi => ?_)
  · rw [rd0_ba, Qac (Nat.le_refl _)]; rfl
  · rw [rd0_ba, Qae hi, Qaf hi, Qag (by omega), Qab hd]; rfl)⟩
theorem s_bb : C_bb (fun x => decide (List.length x.1 <= 4294967296)) (fun x => (List.any x.1 (fun d => !decOk d), ())) := S_bb s_ba fun x hx => ⟨0, (ev_bb 0 x.1 x.2.1).trans (by
  have hx : decide (List.length x.1 <= 4294967296) = true := hx
  simp only [hx, cond_true, Qb7])⟩
theorem s_bc : C_bc (fun x => decide (List.length x.1 <= 4294967296)) (fun x => (List.all x.1 decOk, ())) := S_bc s_bb fun x hx => ⟨0, (ev_bc 0 x.1).trans (by
  have hx : decide (List.length x.1 <= 4294967296) = true := hx
  simp only [hx, cond_true, Qa8, Qcg])⟩

theorem s_bd : C_bd (fun _ => true) (fun x => (need x.1, ())) := S_bd fun x _ => ⟨0, (ev_bd 0 x.1).trans (by
  have key : ∀ c : Int, (bif (decide (c = (1 : Int))) then (some ((1 : Int), ())) else (bif (decide (c = (2 : Int))) then (some ((2 : Int), ())) else (some ((0 : Int), ())))) = some (need c, ()) := fun c => by
    unfold need
    by_cases h1 : c = 1
    · rw [decide_eq_true h1, if_pos h1]; rfl
    · rw [decide_eq_false h1, if_neg h1]
      by_cases h2 : c = 2
      · rw [decide_eq_true h2, if_pos h2]; rfl
      · rw [decide_eq_false h2, if_neg h2]; rfl
  exact key x.1)⟩
theorem s_am : C_am (fun _ => true) (fun x => (need x.1, ())) := S_am fun x _ => ⟨0, (ev_am 0 x.1).trans (by
  have key : ∀ c : Int, (bif (decide (c = (1 : Int))) then (some ((1 : Int), ())) else (bif (decide (c = (2 : Int))) then (some ((2 : Int), ())) else (some ((0 : Int), ())))) = some (need c, ()) := fun c => by
    unfold need
    by_cases h1 : c = 1
    · rw [decide_eq_true h1, if_pos h1]; rfl
    · rw [decide_eq_false h1, if_neg h1]
      by_cases h2 : c = 2
      · rw [decide_eq_true h2, if_pos h2]; rfl
      · rw [decide_eq_false h2, if_neg h2]; rfl
  exact key x.1)⟩

theorem p_bf (l : List MDec) (p : Int) (hl : inq l.length 1 100 = true) (ho : l.all decOk = true) (hp : inq p 0 3 = true) :
    r_bf (fun x => (inq x.1 x.2.1 x.2.2.1, ())) (fun x => (List.all x.1 decOk, ())) (fun x => decide (List.length x.1 <= 4294967296)) (fun x => (decAt x.1 x.2.1, ())) (fun x => (pw x.1, ())) (fun x => decide (x.1 <= 18)) (fun x => (near x.1 x.2.1, ())) (fun x => nrPre x.1 x.2.1) (l, p, ()) (l.length + 1) pt2 (h0_bf l p 0 (l.length : Int) ((0 : Nat) : Int) (0, 0)) = some (decMean l p, ()) := by
  obtain ⟨h1, h2⟩ := Qar.1 hl
  obtain ⟨h3, h4⟩ := Qar.1 hp
  have := Qjn l (by omega) (fun c => (near (c * pw p) ((l.length : Int) * pw 3), p)) (fun k i c => r_bf (fun x => (inq x.1 x.2.1 x.2.2.1, ())) (fun x => (List.all x.1 decOk, ())) (fun x => decide (List.length x.1 <= 4294967296)) (fun x => (decAt x.1 x.2.1, ())) (fun x => (pw x.1, ())) (fun x => decide (x.1 <= 18)) (fun x => (near x.1 x.2.1, ())) (fun x => nrPre x.1 x.2.1) (l, p, ()) k pt2 (h0_bf l p c (l.length : Int) (i : Int) (0, 0))) (fun k c b1 b2 => ?_) (fun k i x r c hd hi b1 b2 => ?_)
  · refine this.trans ?_
    rw [ho]
    unfold decMean
    rw [hl, ho, hp, Qma hl hp]; rfl
  · have hpw := pw_le h4
    have hpp := Qd5 p
    have p3 : pw 3 = 1000 := rfl
    have hpc : c * pw p <= 999900000000 /\ -999900000000 <= c * pw p := by
      rcases Qez h4 with e | e | e | e <;> rw [e] <;> omega
    rw [rd0_bf, Qac (Nat.le_refl _)]
    simp only [cond_false, p3]
    rw [decide_eq_true (show p <= 18 by omega), Qad (x := c * pw p) (by omega) (by omega), Qad (x := (l.length : Int) * 1000) (by omega) (by omega)]
    have hn : nrPre (c * pw p) ((l.length : Int) * 1000) = true := Qbt.2 ⟨⟨by omega, by omega⟩, by omega, by omega⟩
    rw [hn]; rfl
  · have hx : decOk x = true := List.all_eq_true.1 ho x (Qby hd)
    have hb := Qfm hx
    rw [rd0_bf, Qae hi, Qaf hi, Qag (by omega), Qab hd, hx]
    have e : decAt x 3 = atR x 3 := by unfold decAt; rw [hx]; rfl
    simp only [e, cond_true]
    rw [Qad (by omega) (by omega)]
theorem s_bf : C_bf (fun x => decide (List.length x.1 <= 4294967296)) (fun x => (decMean x.1 x.2.1, ())) := S_bf s_iin s_bc s_b4 s_b1 s_b3 fun x hx => ⟨List.length x.1 + 1, (ev_bf _ x.1 x.2.1).trans (by
  have hx : decide (List.length x.1 <= 4294967296) = true := hx
  simp only [hx, cond_true]
  cases hl : inq (List.length x.1) 1 100
  · unfold decMean; rw [hl]; rfl
  · cases ho : List.all x.1 decOk
    · unfold decMean; rw [hl, ho]; rfl
    · cases hp : inq x.2.1 0 3
      · unfold decMean; rw [hl, ho, hp]; rfl
      · exact p_bf x.1 x.2.1 hl ho hp)⟩
theorem p_ao (l : List MDec) (p : Int) (hl : inq l.length 1 100 = true) (hp : inq p 0 3 = true) :
    r_ao (fun x => (inq x.1 x.2.1 x.2.2.1, ())) (fun x => (decOk x.1, ())) (fun x => (atR x.1 x.2.1, ())) (fun x => decOk x.1 && inq x.2.1 0 3) (fun x => (pw x.1, ())) (fun x => decide (x.1 <= 18)) (fun x => (near x.1 x.2.1, ())) (fun x => nrPre x.1 x.2.1) (l, p, ()) (l.length + 1) pt2 (h0_ao l p 0 ((0 : Nat) : Int) (0, 0)) = some (decMean l p, ()) := by
  obtain ⟨h1, h2⟩ := Qar.1 hl
  obtain ⟨h3, h4⟩ := Qar.1 hp
  have := Qjn l (by omega) (fun c => (near c ((l.length : Int) * pw (3 - p)), p)) (fun k i c => r_ao (fun x => (inq x.1 x.2.1 x.2.2.1, ())) (fun x => (decOk x.1, ())) (fun x => (atR x.1 x.2.1, ())) (fun x => decOk x.1 && inq x.2.1 0 3) (fun x => (pw x.1, ())) (fun x => decide (x.1 <= 18)) (fun x => (near x.1 x.2.1, ())) (fun x => nrPre x.1 x.2.1) (l, p, ()) k pt2 (h0_ao l p c (i : Int) (0, 0))) (fun k c b1 b2 => ?_) (fun k i x r c hd hi b1 b2 => ?_)
  · refine this.trans ?_
    unfold decMean
    rw [hl, hp]
    cases l.all decOk <;> rfl
  · have hpw := pw_le (n := 3 - p) (by omega)
    have hpp := Qd5 (3 - p)
    have hpc : (l.length : Int) * pw (3 - p) <= 100000 /\ 1 <= (l.length : Int) * pw (3 - p) := by
      rcases Qez (n := 3 - p) (by omega) with e | e | e | e <;> rw [e] <;> omega
    rw [rd0_ao, Qac (Nat.le_refl _)]
    simp only [cond_false]
    rw [Qad (x := 3 - p) (by omega) (by omega), decide_eq_true (show 3 - p <= 18 by omega), Qad (x := (l.length : Int) * pw (3 - p)) (by omega) (by omega)]
    have hn : nrPre c ((l.length : Int) * pw (3 - p)) = true := Qbt.2 ⟨⟨by omega, by omega⟩, by omega, by omega⟩
    rw [hn]; rfl
  · rw [rd0_ao, Qae hi, Qaf hi, Qag (by omega), Qab hd]
    cases hx : decOk x
    · rfl
    · have hb := Qfm hx
      simp only [hx, in03, Bool.and_self, cond_true, cond_false]
      rw [Qad (by omega) (by omega)]
theorem s_ao : C_ao (fun x => decide (List.length x.1 <= 4294967296)) (fun x => (decMean x.1 x.2.1, ())) := S_ao s_af s_ah s_aj s_ag s_ai fun x hx => ⟨List.length x.1 + 1, (ev_ao _ x.1 x.2.1).trans (by
  have key : ∀ (l : List MDec) (p : Int) (X : Option (MDec × Unit)), (inq l.length 1 100 = true -> inq p 0 3 = true -> X = some (decMean l p, ())) -> (bif (decide ((l.length : Int) = (0 : Int))) then (some (((0 : Int), (0 : Int)), ())) else (bif (decide ((100 : Int) < (l.length : Int))) then (some (((0 : Int), (0 : Int)), ())) else (bif (bif inq p 0 3 then false else true) then (some (((0 : Int), (0 : Int)), ())) else X))) = some (decMean l p, ()) := fun l p X hX => by
    by_cases h0 : (l.length : Int) = 0
    · have : inq l.length 1 100 = false := by unfold inq; rw [decide_eq_false (by omega)]; rfl
      rw [decide_eq_true h0]; unfold decMean; rw [this]; rfl
    · by_cases h1 : (100 : Int) < (l.length : Int)
      · have : inq l.length 1 100 = false := by unfold inq; rw [decide_eq_false (show ¬ (l.length : Int) <= 100 by omega), Bool.and_false]
        rw [decide_eq_false h0, decide_eq_true h1]; unfold decMean; rw [this]; rfl
      · have hl : inq l.length 1 100 = true := Qar.2 ⟨by omega, by omega⟩
        rw [decide_eq_false h0, decide_eq_false h1]
        cases hp : inq p 0 3
        · unfold decMean; rw [hp, Bool.and_false, Bool.and_false]; rfl
        · exact hX hl hp
  exact key x.1 x.2.1 _ fun hl hp => p_ao x.1 x.2.1 hl hp)⟩

end Go.Proofs.Ytijolcgmciclhaa

set_option linter.unusedVariables false
set_option linter.unusedSimpArgs false
namespace Go.Proofs.Ytijolcgmciclhaa
open Go.Vm

theorem rdLmore {l : List MDec} (h : l ≠ []) : rdL (e := S_DecDec) l (0 : Int) = l.getD 0 (0, 0) := rfl
theorem Qnf {l : List MDec} (h : l ≠ []) (ho : l.all decOk = true) : decOk (l.getD 0 (0, 0)) = true := by
  cases l with
  | nil => exact absurd rfl h
  | cons d r => exact List.all_eq_true.1 ho d List.mem_cons_self
theorem Qct {t : MTst} : tlPre t = true ↔ tsPre t = true /\ (t.2.2.2.1 = 1 -> t.2.2.2.2 ≠ []) := by
  unfold tlPre
  simp only [Bool.and_eq_true, Bool.or_eq_true, Bool.not_eq_true', decide_eq_false_iff_not, List.isEmpty_eq_false_iff]
  exact ⟨fun h => ⟨h.1, fun e => h.2.resolve_left (fun hn => hn e)⟩, fun h => ⟨h.1, Classical.or_iff_not_imp_left.2 fun hn => h.2 (Classical.not_not.1 hn)⟩⟩
theorem Qno {l : List MDec} (h : l ≠ []) : (bif (decide ((0 : Int) <= (0 : Int))) then (decide ((0 : Int) < (l.length : Int))) else false) = true := by
  have : 0 < l.length := List.length_pos_iff.2 h
  exact Qae (i := 0) this

theorem p_tell {t : MTst} (h : tlPre t = true) (A B C : Option (MDec × Unit)) (hA : t.2.2.2.2 ≠ [] -> A = some (decAt (t.2.2.2.2.getD 0 (0, 0)) t.1.2.2.2, ())) (hB : B = some (decMean (t.2.2.1 :: t.2.2.2.2) t.1.2.2.2, ())) (hC : C = some (decAt t.2.2.1 t.1.2.2.2, ())) :
    (bif (decide (t.2.2.2.1 = (1 : Int))) then (bif (bif (decide ((0 : Int) <= (0 : Int))) then (decide ((0 : Int) < (t.2.2.2.2.length : Int))) else false) then A else none) else (bif (decide (t.2.2.2.1 = (2 : Int))) then (bif (fitL [t.2.2.1] t.2.2.2.2) then B else none) else C)) = some (tell t, ()) := by
  obtain ⟨h1, h2⟩ := Qct.1 h
  obtain ⟨_, _, _, h3⟩ := Qb8.1 h1
  unfold tell
  by_cases c1 : t.2.2.2.1 = 1
  · rw [decide_eq_true c1, if_pos c1, Qno (h2 c1), hA (h2 c1)]; rfl
  · rw [decide_eq_false c1, if_neg c1]
    by_cases c2 : t.2.2.2.1 = 2
    · rw [decide_eq_true c2, if_pos c2, Qej (by simp; omega), hB]; rfl
    · rw [decide_eq_false c2, if_neg c2, hC]; rfl

theorem s_bg : C_bg (fun x => tlPre x.1) (fun x => (tell x.1, ())) := S_bg s_b4 s_bf fun x hx => ⟨0, (ev_bg 0 x.1).trans (by
  have hx : tlPre x.1 = true := hx
  obtain ⟨_, _, _, h3⟩ := Qb8.1 (Qct.1 hx).1
  refine p_tell hx _ _ _ (fun _ => rfl) ?_ rfl
  have : decide (List.length (List.append [x.1.2.2.1] x.1.2.2.2.2) <= 4294967296) = true := decide_eq_true (by
    show (x.1.2.2.1 :: x.1.2.2.2.2).length <= _
    rw [List.length_cons]; exact Nat.le_trans (Nat.succ_le_succ h3) (by decide))
  rw [this]; rfl)⟩
theorem s_ap : C_ap (fun x => tlPre x.1) (fun x => (tell x.1, ())) := S_ap s_aj s_ao fun x hx => ⟨0, (ev_ap 0 x.1).trans (by
  have hx : tlPre x.1 = true := hx
  obtain ⟨g1, g2, g3, h3⟩ := Qb8.1 (Qct.1 hx).1
  have hp := Qgk g1
  have hat : ∀ d, decOk d = true -> decAt d x.1.1.2.2.2 = atR d x.1.1.2.2.2 := fun d hd => by unfold decAt; rw [hd, hp]; rfl
  refine p_tell hx _ _ _ (fun hne => ?_) ?_ ?_
  · have ho := Qnf hne g3
    have e : (decOk (rdL (e := S_DecDec) x.1.2.2.2.2 (0 : Int)) && inq x.1.1.2.2.2 0 3) = true := by rw [rdLmore hne, ho, hp]; rfl
    rw [hat _ ho]
    simp only [e, cond_true]; rfl
  · have : decide (List.length (List.append [x.1.2.2.1] x.1.2.2.2.2) <= 4294967296) = true := decide_eq_true (by
      show (x.1.2.2.1 :: x.1.2.2.2.2).length <= _
      rw [List.length_cons]; exact Nat.le_trans (Nat.succ_le_succ h3) (by decide))
    rw [this]; rfl
  · rw [hat _ g2]
    simp only [g2, hp, Bool.and_self, cond_true])⟩

theorem s_bh : C_bh (fun _ => true) (fun x => (!spcIn x.2.1.1 x.1, ())) := S_bh s_be fun x _ => ⟨0, (ev_bh 0 x.1 x.2.1).trans (by simp only [Qa8])⟩
theorem s_bi : C_bi (fun x => decide (List.length x.1 <= 4294967296)) (fun x => (idxOf (fun d => !spcIn x.2.1.1.1 d) x.1 0, ())) := S_bi s_bh fun x hx => ⟨List.length x.1 + 1, (ev_bi _ x.1 x.2.1).trans (by
  have hx : List.length x.1 <= 4294967296 := of_decide_eq_true hx
  refine Qc2 (α := MDec) x.1 (fun d => !spcIn x.2.1.1.1 d) (fun k i => r_bi (fun x => (!spcIn x.2.1.1 x.1, ())) (x.1, x.2.1, ()) k pt1 (h0_bi x.1 x.2.1 (List.length x.1 : Int) (i : Int))) (fun k => ?_) (fun k i y r hd hi => ?_)
  · rw [rd0_bi, Qac (Nat.le_refl _)]; rfl
  · rw [rd0_bi, Qae hi, Qaf hi, Qag (by omega), Qab hd]; rfl)⟩
theorem s_bj : C_bj (fun x => decide (List.length x.1 <= 4294967296)) (fun x => (List.any x.1 (fun d => !spcIn x.2.1.1.1 d), ())) := S_bj s_bi fun x hx => ⟨0, (ev_bj 0 x.1 x.2.1).trans (by
  have hx : decide (List.length x.1 <= 4294967296) = true := hx
  simp only [hx, cond_true, Qb7])⟩

theorem tl_of {t : MTst} (h : tsPre t = true) (hn : ¬ (t.2.2.2.2.length : Int) < need t.2.2.2.1) : tlPre t = true := by
  refine Qct.2 ⟨h, fun e hne => ?_⟩
  rw [hne, e] at hn
  exact hn (by decide)

theorem p_state {t : MTst} (A : Option (Int × Unit)) (h3 : t.2.2.2.1 ≠ 3) (hA : ¬ (t.2.2.2.2.length : Int) < need t.2.2.2.1 -> A = some (if passes t = true then 3 else 4, ())) (h0 : t.2.2.2.1 ≠ 0) :
    (bif (decide ((t.2.2.2.2.length : Int) < need t.2.2.2.1)) then (some ((2 : Int), ())) else A) = some (stateOf t, ()) := by
  unfold stateOf
  rw [if_neg h0, if_neg h3]
  by_cases hn : (t.2.2.2.2.length : Int) < need t.2.2.2.1
  · rw [decide_eq_true hn, if_pos hn]; rfl
  · rw [decide_eq_false hn, if_neg hn, hA hn]; rfl

theorem s_bk : C_bk (fun x => tsPre x.1) (fun x => (stateOf x.1, ())) := S_bk s_be s_bd s_bg s_bj fun x hx => ⟨0, (ev_bk 0 x.1).trans (by
  have key : ∀ t : MTst, tsPre t = true -> t.2.2.2.1 ≠ 0 -> (bif (decide ((t.2.2.2.2.length : Int) < need t.2.2.2.1)) then (some ((2 : Int), ())) else (bif (bif (decide (t.2.2.2.1 = (3 : Int))) then false else true) then (bif tlPre t then (bif spcIn t.1 (tell t) then (bif decide (t.2.2.2.2.length <= 4294967296) then (bif (bif (t.2.2.2.2.any fun d => !spcIn t.1 d) then false else true) then (some ((3 : Int), ())) else (some ((4 : Int), ()))) else none) else (some ((4 : Int), ()))) else none) else (some ((4 : Int), ())))) = some (stateOf t, ()) := fun t ht h0 => by
    obtain ⟨_, _, _, h3⟩ := Qb8.1 ht
    by_cases c3 : t.2.2.2.1 = 3
    · have hn : ¬ (t.2.2.2.2.length : Int) < need t.2.2.2.1 := by rw [c3]; unfold need; simp
      unfold stateOf
      rw [if_neg h0, if_pos c3, decide_eq_false hn, decide_eq_true c3]; rfl
    · refine p_state _ c3 (fun hn => ?_) h0
      rw [decide_eq_false c3, tl_of ht hn, decide_eq_true (show t.2.2.2.2.length <= 4294967296 by omega)]
      simp only [Qa8, Qcg, cond_true]
      unfold passes
      cases spcIn t.1 (tell t) <;> cases t.2.2.2.2.all (spcIn t.1) <;> rfl
  have hx : tsPre x.1 = true := hx
  by_cases h0 : x.1.2.2.2.1 = 0
  · unfold stateOf
    rw [if_pos h0]
    simp only [decide_eq_true h0]
    cases spcIn x.1.1 x.1.2.2.1 <;> rfl
  · have := key x.1 hx h0
    simp only [decide_eq_false h0, cond_false]
    exact this)⟩

theorem s_aq : C_aq (fun x => tlPre x.1) (fun x => (passes x.1, ())) := S_aq s_an s_ap fun x hx => ⟨List.length x.1.2.2.2.2 + 1, (ev_aq _ x.1).trans (by
  have hx : tlPre x.1 = true := hx
  obtain ⟨_, _, _, h3⟩ := Qb8.1 (Qct.1 hx).1
  have h3 : List.length x.1.2.2.2.2 <= 2 := h3
  refine Qjk (α := MDec) x.1.2.2.2.2 (spcIn x.1.1) (spcIn x.1.1 (tell x.1)) (fun k i => r_aq (fun x => (spcIn x.1 x.2.1, ())) (fun x => (tell x.1, ())) (fun x => tlPre x.1) (x.1, ()) k pt1 (h0_aq x.1 (i : Int))) (fun k => ?_) (fun k i y r hd hi => ?_)
  · rw [rd0_aq, Qac (Nat.le_refl _)]
    simp only [hx, cond_true, cond_false]
  · rw [rd0_aq, Qae hi, Qaf hi, Qag (by omega), Qab hd]
    simp only [cond_true, Qa8, Qcr])⟩
theorem s_ar : C_ar (fun x => tsPre x.1) (fun x => (stateOf x.1, ())) := S_ar s_an s_am s_aq fun x hx => ⟨0, (ev_ar 0 x.1).trans (by
  have hx : tsPre x.1 = true := hx
  by_cases h0 : x.1.2.2.2.1 = 0
  · unfold stateOf
    rw [if_pos h0]
    simp only [decide_eq_true h0]
    cases spcIn x.1.1 x.1.2.2.1 <;> rfl
  · simp only [decide_eq_false h0, cond_false]
    by_cases c3 : x.1.2.2.2.1 = 3
    · unfold stateOf
      rw [if_neg h0, if_pos c3, decide_eq_true c3]; rfl
    · simp only [decide_eq_false c3, cond_false]
      refine p_state (t := x.1) _ c3 (fun hn => ?_) h0
      simp only [tl_of hx hn, cond_true]
      cases passes x.1 <;> rfl)⟩

theorem p_okB (t : MTst) (A : Option (Bool × Unit)) (hA : t.2.1 ≠ 0 -> A = some (decide (t.2.1 = stateOf t) && (decide (t.2.2.2.1 = 0) || !spcIn t.1 t.2.2.1), ())) :
    (bif (decide (t.2.1 = (0 : Int))) then (bif (Sh.beq S_DecDec t.2.2.1 ((0 : Int), (0 : Int))) then (some ((decide (t.2.2.2.1 = (0 : Int))), ())) else (some (false, ()))) else A) = some (tstOkB t, ()) := by
  rw [Qne]
  unfold tstOkB
  by_cases h : t.2.1 = 0
  · rw [decide_eq_true h]
    cases same t.2.2.1 ((0 : Int), (0 : Int)) <;> rfl
  · rw [decide_eq_false h, hA h]; rfl
theorem p_okB2 (t : MTst) : (bif (decide (t.2.1 = stateOf t)) then (bif (decide (t.2.2.2.1 = (0 : Int))) then (some (true, ())) else (some ((bif spcIn t.1 t.2.2.1 then false else true), ()))) else (some (false, ()))) = some (decide (t.2.1 = stateOf t) && (decide (t.2.2.2.1 = 0) || !spcIn t.1 t.2.2.1), ()) := by
  cases decide (t.2.1 = stateOf t) <;> cases decide (t.2.2.2.1 = 0) <;> cases spcIn t.1 t.2.2.1 <;> rfl
theorem s_bl : C_bl (fun x => decide (List.length x.1.2.2.2.2 <= 4294967296)) (fun x => (tstOk x.1, ())) := S_bl s_b8 s_b2 s_bc s_iin s_bd s_bk s_be fun x hx => ⟨0, (ev_bl 0 x.1).trans (by
  have hx : decide (List.length x.1.2.2.2.2 <= 4294967296) = true := hx
  simp only [hx, cond_true]
  unfold tstOk
  cases hA : tstOkA x.1
  · have hA' := hA
    unfold tstOkA at hA'
    cases h1 : askOk x.1.1
    · rfl
    · cases h2 : decOk x.1.2.2.1
      · rfl
      · cases h3 : List.all x.1.2.2.2.2 decOk
        · rfl
        · cases h4 : inq x.1.2.2.2.1 0 3
          · rfl
          · rw [h1, h2, h3, h4] at hA'
            have h5 : need x.1.2.2.2.1 < (List.length x.1.2.2.2.2 : Int) := Int.not_le.1 (of_decide_eq_false hA')
            simp only [cond_false, decide_eq_true h5]; rfl
  · have hp := Qjm hA
    unfold tstOkA at hA
    simp only [Bool.and_eq_true, decide_eq_true_eq] at hA
    obtain ⟨h1, h2, h3, h4, h5⟩ := hA
    simp only [h1, h2, h3, h4, decide_eq_false (Int.not_lt.2 h5), cond_true, cond_false, Bool.true_and]
    refine p_okB x.1 _ fun hs => ?_
    simp only [hp, cond_true]
    exact p_okB2 x.1)⟩
theorem s_as : C_as (fun _ => true) (fun x => (tstOk x.1, ())) := S_as s_al s_ah s_af s_am s_ar s_an fun x _ => ⟨List.length x.1.2.2.2.2 + 1, (ev_as _ x.1).trans (by
  have key : ∀ t : MTst, (bif (bif askOk t.1 then false else true) then (some (false, ())) else (bif (bif decOk t.2.2.1 then false else true) then (some (false, ())) else (bif (bif inq t.2.2.2.1 0 3 then false else true) then (some (false, ())) else (bif (decide (need t.2.2.2.1 < (t.2.2.2.2.length : Int))) then (some (false, ())) else
      (r_as (fun x => (askOk x.1, ())) (fun x => (decOk x.1, ())) (fun x => (inq x.1 x.2.1 x.2.2.1, ())) (fun x => (need x.1, ())) (fun x => (stateOf x.1, ())) (fun x => tsPre x.1) (fun x => (spcIn x.1 x.2.1, ())) (t, ()) (t.2.2.2.2.length + 1) pt0 (h0_as t ((0 : Nat) : Int))))))) = some (tstOk t, ()) := fun t => by
    unfold tstOk
    have hloop : askOk t.1 = true -> decOk t.2.2.1 = true -> inq t.2.2.2.1 0 3 = true -> (t.2.2.2.2.length : Int) <= need t.2.2.2.1 -> r_as (fun x => (askOk x.1, ())) (fun x => (decOk x.1, ())) (fun x => (inq x.1 x.2.1 x.2.2.1, ())) (fun x => (need x.1, ())) (fun x => (stateOf x.1, ())) (fun x => tsPre x.1) (fun x => (spcIn x.1 x.2.1, ())) (t, ()) (t.2.2.2.2.length + 1) pt0 (h0_as t ((0 : Nat) : Int)) = some (t.2.2.2.2.all decOk && tstOkB t, ()) := fun h1 h2 h4 h5 => by
      have h6 := Qkd t.2.2.2.1
      by_cases h3 : t.2.2.2.2.all decOk = true
      · have hp : tsPre t = true := Qb8.2 ⟨h1, h2, h3, by omega⟩
        refine Qjk (α := MDec) t.2.2.2.2 decOk (tstOkB t) (fun k i => r_as (fun x => (askOk x.1, ())) (fun x => (decOk x.1, ())) (fun x => (inq x.1 x.2.1 x.2.2.1, ())) (fun x => (need x.1, ())) (fun x => (stateOf x.1, ())) (fun x => tsPre x.1) (fun x => (spcIn x.1 x.2.1, ())) (t, ()) k pt0 (h0_as t (i : Int))) (fun k => ?_) (fun k i y r hd hi => ?_)
        · rw [rd0_as, Qac (Nat.le_refl _)]
          refine p_okB t _ fun hs => ?_
          simp only [hp, cond_true]
          exact p_okB2 t
        · rw [rd0_as, Qae hi, Qaf hi, Qag (by omega), Qab hd]
          simp only [cond_true, Qa8, Qcr]
      · have h3 : t.2.2.2.2.all decOk = false := Bool.eq_false_iff.2 h3
        have := Qa1 (σ := Unit) t.2.2.2.2 (fun k i _ => r_as (fun x => (askOk x.1, ())) (fun x => (decOk x.1, ())) (fun x => (inq x.1 x.2.1 x.2.2.1, ())) (fun x => (need x.1, ())) (fun x => (stateOf x.1, ())) (fun x => tsPre x.1) (fun x => (spcIn x.1 x.2.1, ())) (t, ()) k pt0 (h0_as t (i : Int))) (fun l i _ => (false, ())) (fun i _ => (t.2.2.2.2.drop i).all decOk = false) (fun k s hs => by
          rw [List.drop_length] at hs; cases hs) (fun k i y r s hd hi hs => by
          cases hy : decOk y
          · refine .inl ?_
            show r_as _ _ _ _ _ _ _ _ _ _ _ = _
            rw [rd0_as, Qae hi, Qaf hi, Qag (by omega), Qab hd]
            simp only [hy]; rfl
          · refine .inr ⟨(), ?_, ?_, rfl⟩
            · rw [hd, List.all_cons, hy] at hs
              rw [Qid hd]; exact hs
            · show r_as _ _ _ _ _ _ _ _ _ _ _ = _
              rw [rd0_as, Qae hi, Qaf hi, Qag (by omega), Qab hd]
              simp only [hy]; rfl) t.2.2.2.2.length 0 () (by omega) (by simpa using h3)
        rw [h3]
        exact this
    unfold tstOkA
    cases h1 : askOk t.1
    · rfl
    · cases h2 : decOk t.2.2.1
      · rfl
      · cases h4 : inq t.2.2.2.1 0 3
        · simp only [Bool.false_and, Bool.and_false]; rfl
        · by_cases h5 : (t.2.2.2.2.length : Int) <= need t.2.2.2.1
          · rw [decide_eq_true h5, decide_eq_false (by omega)]
            refine (hloop h1 h2 h4 h5).trans ?_
            simp only [Bool.true_and, Bool.and_true]
          · rw [decide_eq_false h5, decide_eq_true (by omega)]
            simp only [Bool.and_false, Bool.false_and]; rfl
  exact key x.1)⟩

/-- A test that is settled can be told. -/
theorem Qhf {t : MTst} (h : tstOk t = true) (hs : t.2.1 = 3 ∨ t.2.1 = 4) : tlPre t = true := by
  unfold tstOk at h
  obtain ⟨hA, hB⟩ := Bool.and_eq_true_iff.1 h
  have hp := Qjm hA
  have h0 : t.2.1 ≠ 0 := by omega
  unfold tstOkB at hB
  rw [decide_eq_false h0, cond_false, Bool.and_eq_true] at hB
  have he : t.2.1 = stateOf t := of_decide_eq_true hB.1
  refine Qct.2 ⟨hp, fun c1 hne => ?_⟩
  unfold stateOf at he
  rw [c1, hne] at he
  simp only [List.length_nil, if_neg (show ¬ (1 : Int) = 0 by decide), if_neg (show ¬ (1 : Int) = 3 by decide), need, if_true] at he
  rw [if_pos (by decide)] at he
  omega
end Go.Proofs.Ytijolcgmciclhaa

set_option linter.unusedVariables false
set_option linter.unusedSimpArgs false
namespace Go.Proofs.Ytijolcgmciclhaa
open Go.Vm

theorem p_szLen (n : Nat) (l : Int) (h1 : n <= 9223372036854775807) (h2 : 0 <= l) (h3 : l <= 1048576) : (bif (decide ((w64 (l - (n : Int))) < (0 : Int))) then (some ((-1 : Int), ())) else (some ((w64 (l - (n : Int))), ()))) = some (if l < (n : Int) then -1 else l - (n : Int), ()) := by
  rw [Qad (by omega) (by omega)]
  by_cases h : l < n
  · rw [if_pos h, decide_eq_true (by omega)]; rfl
  · rw [if_neg h, decide_eq_false (by omega)]; rfl
theorem p_szPass (n : Nat) (l : Int) (h : 0 <= l) : (bif decide ((if l < (n : Int) then -1 else l - (n : Int)) < (0 : Int)) then (some ((-1 : Int), ())) else (some ((if l < (n : Int) then -1 else l - (n : Int)), ()))) = some ((if l < (n : Int) then -1 else l - (n : Int)), ()) := by
  by_cases h1 : l < (n : Int)
  · rw [if_pos h1]; rfl
  · rw [if_neg h1, decide_eq_false (by omega)]; rfl
/-- What is left behind so many. -/
def szN (n : Nat) (l : Int) : Int := if l < (n : Int) then -1 else l - (n : Int)
theorem s_a0 : C_a0 (fun x => okLen (List.length x.1) && inq x.2.1 0 1048576) (fun x => (szN (List.length x.1) x.2.1, ())) := S_a0 fun x hx => ⟨0, (ev_a0 0 x.1 x.2.1).trans (by
  have h := Bool.and_eq_true_iff.1 hx
  have h2 := Qar.1 h.2
  exact p_szLen _ _ (Qbu.1 h.1) h2.1 h2.2)⟩
theorem s_a1 : C_a1 (fun x => okLen (List.length x.1.2.2.2.2) && inq x.2.1 0 1048576) (fun x => (szN (List.length x.1.2.2.2.2) x.2.1, ())) := S_a1 s_a0 fun x hx => ⟨0, (ev_a1 0 x.1 x.2.1).trans (by
  have hx : (okLen (List.length x.1.2.2.2.2) && inq x.2.1 0 1048576) = true := hx
  simp only [hx, cond_true]
  exact p_szPass _ _ (Qar.1 (Bool.and_eq_true_iff.1 hx).2).1)⟩
theorem s_a8 : C_a8 (fun x => decide (List.length x.1 <= 4294967296)) (fun x => (x.1, ())) := S_a8 s_a6 fun x hx => ⟨List.length x.1 + 1, (ev_a8 _ x.1).trans (by
  have hx : List.length x.1 <= 4294967296 := of_decide_eq_true hx
  rw [p_make hx]
  refine (Qe0 (α := MDec) x.1 (fun y => y) (fun k i out => r_a8 (fun x => (x.1, ())) (x.1, ()) k pt0 (h0_a8 x.1 (i : Int) out)) (fun k out ho => ?_) (fun k i y r out hd hi ho => ?_) _ ?_).trans ?_
  · rw [rd0_a8, Qac (Nat.le_refl _)]; rfl
  · rw [rd0_a8, Qae hi, Qae (ho.symm ▸ hi), Qaf hi, Qag (by omega), Int.toNat_natCast, Qab hd]; rfl
  · rw [List.length_replicate]; exact Int.toNat_natCast _
  · rw [List.map_id'])⟩
theorem s_a9 : C_a9 (fun x => decide (List.length x.1.2.2.2.2 <= 4294967296)) (fun x => (x.1, ())) := S_a9 s_a7 s_a6 s_a8 fun x hx => ⟨0, (ev_a9 0 x.1).trans (by
  have hx : decide (List.length x.1.2.2.2.2 <= 4294967296) = true := hx
  rw [hx]; rfl)⟩
theorem s_c9 : C_c9 (fun x => decide (List.length x.1 <= 4294967296)) (fun x => (same x.1 x.2.1, ())) := S_c9 s_c6 fun x hx => ⟨List.length x.1 + 1, (ev_c9 _ x.1 x.2.1).trans (p_eqS fun hl => by
  have hx : List.length x.1 <= 4294967296 := of_decide_eq_true hx
  refine Qek (α := MDec) x.1 x.2.1 hl (fun k i => r_c9 (fun x => (same x.1 x.2.1, ())) (x.1, x.2.1, ()) k pt0 (h0_c9 x.1 x.2.1 (i : Int))) (fun k => ?_) (fun k i y z r r' hd hd' hi hi' => ?_)
  · rw [rd0_c9, Qac (Nat.le_refl _)]; rfl
  · rw [rd0_c9, Qae hi, Qae hi', Qaf hi, Qag (by omega), Qab hd, Qab hd', Qa8, Qcr]; rfl)⟩
theorem s_cb : C_cb (fun x => decide (List.length x.1.2.2.2.2 <= 4294967296)) (fun x => (same x.1 x.2.1, ())) := S_cb s_c7 s_c6 s_c9 fun x hx => ⟨0, (ev_cb 0 x.1 x.2.1).trans (by
  have hx : decide (List.length x.1.2.2.2.2 <= 4294967296) = true := hx
  simp only [hx, cond_true, Qa8, Qcr, Qbr, Qbs, Qb2, Qa0, Bool.and_true]
  refine congrArg (fun b => some (b, ())) ?_
  rw [Qam, Qam, Qam, Qam])⟩

theorem s_bm : C_bm (fun _ => true) (fun x => (inq x.1 1 5, ())) := S_bm s_iin fun x _ => ⟨0, ev_bm 0 x.1⟩
theorem s_ca : C_ca (fun x => decide (List.length x.1.2.1 <= 4294967296) && decide (List.length x.1.2.2.1 <= 4294967296)) (fun x => (same x.1 x.2.1, ())) := S_ca s_c8 s_c9 fun x hx => ⟨0, (ev_ca 0 x.1 x.2.1).trans (by
  obtain ⟨h1, h2⟩ := Bool.and_eq_true_iff.1 hx
  rw [h1, h2]
  simp only [cond_true, Qa8, Qcr, Qbr, Qbs, Qb2, Qa0, Bool.and_true]
  refine congrArg (fun b => some (b, ())) ?_
  rw [Qam, Qam, Qam, Qam])⟩

end Go.Proofs.Ytijolcgmciclhaa

set_option linter.unusedVariables false
set_option linter.unusedSimpArgs false
namespace Go.Proofs.Ytijolcgmciclhaa
open Go.Vm
theorem Qkf {S : Sh} {l : List S.den} {i : Nat} {x : S.den} (h : i < l.length) : rdL (e := S) (l.set i x) (i : Int) = x := by
  unfold rdL
  rw [Int.toNat_natCast, List.getD_eq_getElem?_getD, List.getElem?_set_self h]; rfl
theorem s_cm : C_cm (fun x => mkPre (szL (fun _ => 6)) x.1 x.2.1) (fun x => ((markL mkAsk x.1 x.2.1).2, ((markL mkAsk x.1 x.2.1).1, ()))) := S_cm fun x hx => ⟨List.length x.1 + 1, (ev_cm _ x.1 x.2.1).trans (by
  obtain ⟨h1, h2⟩ := Qap.1 hx
  have hl : List.length x.1 <= szL (fun _ => 6) x.1 := Qcs (fun _ => by decide) x.1
  refine Qdf (α := MAsk) (mk := mkAsk) (sz := fun _ => 6) Qcl.go x.1 4294967296 (fun c out => some (c, (out, ()))) (fun k i c out => r_cm (x.1, x.2.1, ()) k pt1 (h0_cm x.1 x.2.1 c (i : Int) out)) (fun k c out ho => ?_) (fun k i y r c out hd hi ho h0 hB => ?_) x.2.1 h1 h2
  · rw [rd0_cm]
    try simp only [lt_eq]
    rw [Qac (show out.length <= List.length x.1 by omega)]; rfl
  · have hi' : i < out.length := by omega
    have hB : c + 6 <= 4294967296 := hB
    rw [rd0_cm]
    have hr : ∀ y : MAsk, rdL (e := S_SpcTest) (out.set i y) (i : Int) = y := fun y => Qkf hi'
    have h0i : decide ((0 : Int) <= (i : Int)) = true := decide_eq_true (by omega)
    simp only [lt_eq, Int.toNat_natCast, List.length_set, hr, List.set_set, h0i, Qaf hi', cond_true, Qag (show i <= 4294967296 by omega)]
    rw [Qad (x := c + 1) (by omega) (by omega), Qad (x := c + 1 + 1) (by omega) (by omega), Qad (x := c + 1 + 1 + 1) (by omega) (by omega), Qad (x := c + 1 + 1 + 1 + 1) (by omega) (by omega), Qad (x := c + 1 + 1 + 1 + 1 + 1) (by omega) (by omega), Qad (x := c + 1 + 1 + 1 + 1 + 1 + 1) (by omega) (by omega)]
    rfl)⟩
theorem s_co : C_co (fun x => mkPre (szL (fun _ => 6)) x.1 x.2.1) (fun x => (hdOf (markL mkAsk) x.1 x.2.1, ())) := S_co fun x hx => ⟨List.length x.1 + 1, (ev_co _ x.1 x.2.1).trans (by
  obtain ⟨h1, h2⟩ := Qap.1 hx
  have hl : List.length x.1 <= szL (fun _ => 6) x.1 := Qcs (fun _ => by decide) x.1
  refine Qif (α := MAsk) (mk := mkAsk) (sz := fun _ => 6) Qcl x.1 4294967296 (fun k i c => r_co (x.1, x.2.1, ()) k pt1 (h0_co x.1 x.2.1 c (i : Int))) (fun k c => ?_) (fun k i y r c hd hi h0 hB => ?_) x.2.1 h1 h2
  · rw [rd0_co]
    try simp only [lt_eq]
    rw [Qac (Nat.le_refl _)]; rfl
  · have hB : c + 6 <= 4294967296 := hB
    rw [rd0_co]
    have h0i : decide ((0 : Int) <= (i : Int)) = true := decide_eq_true (by omega)
    simp only [lt_eq, h0i, Qaf hi, cond_true, Qag (show i <= 4294967296 by omega), Qab hd]
    rw [Qad (x := c + 1) (by omega) (by omega), Qad (x := c + 1 + 1) (by omega) (by omega), Qad (x := c + 1 + 1 + 1) (by omega) (by omega), Qad (x := c + 1 + 1 + 1 + 1) (by omega) (by omega), Qad (x := c + 1 + 1 + 1 + 1 + 1) (by omega) (by omega), Qad (x := c + 1 + 1 + 1 + 1 + 1 + 1) (by omega) (by omega)]
    unfold mkAsk
    simp only [Qfr, Qa0]
    cases same y.1 c <;> cases same y.2.1.1 (c + 1) <;> cases same y.2.1.2 (c + 1 + 1) <;> cases same y.2.2.1.1 (c + 1 + 1 + 1) <;> cases same y.2.2.1.2 (c + 1 + 1 + 1 + 1) <;> cases same y.2.2.2 (c + 1 + 1 + 1 + 1 + 1) <;> rfl)⟩
theorem s_ch : C_ch (fun x => mkPre (szL (fun _ => 2)) x.1 x.2.1) (fun x => ((markL mkDec x.1 x.2.1).2, ((markL mkDec x.1 x.2.1).1, ()))) := S_ch fun x hx => ⟨List.length x.1 + 1, (ev_ch _ x.1 x.2.1).trans (by
  obtain ⟨h1, h2⟩ := Qap.1 hx
  have hl : List.length x.1 <= szL (fun _ => 2) x.1 := Qcs (fun _ => by decide) x.1
  refine Qdf (α := MDec) (mk := mkDec) (sz := fun _ => 2) Qb9.go x.1 4294967296 (fun c out => some (c, (out, ()))) (fun k i c out => r_ch (x.1, x.2.1, ()) k pt1 (h0_ch x.1 x.2.1 c (i : Int) out)) (fun k c out ho => ?_) (fun k i y r c out hd hi ho h0 hB => ?_) x.2.1 h1 h2
  · rw [rd0_ch]
    try simp only [lt_eq]
    rw [Qac (show out.length <= List.length x.1 by omega)]; rfl
  · have hi' : i < out.length := by omega
    have hB : c + 2 <= 4294967296 := hB
    rw [rd0_ch]
    have hr : ∀ y : MDec, rdL (e := S_DecDec) (out.set i y) (i : Int) = y := fun y => Qkf hi'
    have h0i : decide ((0 : Int) <= (i : Int)) = true := decide_eq_true (by omega)
    simp only [lt_eq, Int.toNat_natCast, List.length_set, hr, List.set_set, h0i, Qaf hi', cond_true, Qag (show i <= 4294967296 by omega)]
    rw [Qad (x := c + 1) (by omega) (by omega), Qad (x := c + 1 + 1) (by omega) (by omega)]
    rfl)⟩
theorem s_cp : C_cp (fun x => mkPre (szL (fun _ => 2)) x.1 x.2.1) (fun x => (hdOf (markL mkDec) x.1 x.2.1, ())) := S_cp fun x hx => ⟨List.length x.1 + 1, (ev_cp _ x.1 x.2.1).trans (by
  obtain ⟨h1, h2⟩ := Qap.1 hx
  have hl : List.length x.1 <= szL (fun _ => 2) x.1 := Qcs (fun _ => by decide) x.1
  refine Qif (α := MDec) (mk := mkDec) (sz := fun _ => 2) Qb9 x.1 4294967296 (fun k i c => r_cp (x.1, x.2.1, ()) k pt1 (h0_cp x.1 x.2.1 c (i : Int))) (fun k c => ?_) (fun k i y r c hd hi h0 hB => ?_) x.2.1 h1 h2
  · rw [rd0_cp]
    try simp only [lt_eq]
    rw [Qac (Nat.le_refl _)]; rfl
  · have hB : c + 2 <= 4294967296 := hB
    rw [rd0_cp]
    have h0i : decide ((0 : Int) <= (i : Int)) = true := decide_eq_true (by omega)
    simp only [lt_eq, h0i, Qaf hi, cond_true, Qag (show i <= 4294967296 by omega), Qab hd]
    rw [Qad (x := c + 1) (by omega) (by omega), Qad (x := c + 1 + 1) (by omega) (by omega)]
    unfold mkDec
    simp only [Qfr, Qa0]
    cases same y.1 c <;> cases same y.2 (c + 1) <;> rfl)⟩
end Go.Proofs.Ytijolcgmciclhaa

set_option linter.unusedVariables false
set_option linter.unusedSimpArgs false
namespace Go.Proofs.Ytijolcgmciclhaa
open Go.Vm
theorem s_bn : C_bn (fun _ => true) (fun x => (signs x.1, ())) := S_bn fun x _ => ⟨0, (ev_bn 0 x.1).trans (by
  have key : ∀ c : Int, (bif (decide (c = (2 : Int))) then (some (true, ())) else (some ((decide (c = (3 : Int))), ()))) = some (signs c, ()) := fun c => by
    unfold signs; cases decide (c = 2) <;> rfl
  exact key x.1)⟩
theorem s_bo : C_bo (fun _ => true) (fun x => (sigOk x.1, ())) := S_bo s_bm s_bn s_iin fun x _ => ⟨0, (ev_bo 0 x.1).trans (by
  have key : ∀ s : MSig, (bif inq s.1 1 5 then (bif signs s.2.1 then some (inq s.2.2 0 999982, ()) else some (false, ())) else some (false, ())) = some (sigOk s, ()) := fun s => by
    unfold sigOk; cases inq s.1 1 5 <;> cases signs s.2.1 <;> rfl
  exact key x.1)⟩
theorem s_bp : C_bp (fun _ => true) (fun x => (!sigOk x.1, ())) := S_bp s_bo fun x _ => ⟨0, (ev_bp 0 x.1).trans (by simp only [Qa8])⟩
theorem s_bs : C_bs (fun _ => true) (fun x => (!passed x.1, ())) := S_bs fun x _ => ⟨0, (ev_bs 0 x.1).trans (by simp only [Qa8]; rfl)⟩

theorem s_bq : C_bq (fun x => decide (List.length x.1 <= 4294967296)) (fun x => (idxOf (fun d : MSig => !sigOk d) x.1 0, ())) := S_bq s_bp fun x hx => ⟨List.length x.1 + 1, (ev_bq _ x.1 x.2.1).trans (by
  have hx : List.length x.1 <= 4294967296 := of_decide_eq_true hx
  refine Qc2 (α := MSig) x.1 (fun d => !sigOk d) (fun k i => r_bq (fun x => (!sigOk x.1, ())) (fun _ => true) (x.1, x.2.1, ()) k pt1 (h0_bq x.1 x.2.1 (List.length x.1 : Int) (i : Int))) (fun k => ?_) (fun k i y r hd hi => ?_)
  · rw [rd0_bq, Qac (Nat.le_refl _)]; rfl
  · rw [rd0_bq, Qae hi, Qaf hi, Qag (by omega), Qab hd]; rfl)⟩
theorem s_br : C_br (fun x => decide (List.length x.1 <= 4294967296)) (fun x => (List.any x.1 (fun d : MSig => !sigOk d), ())) := S_br s_bq fun x hx => ⟨0, (ev_br 0 x.1 x.2.1).trans (by
  have hx : decide (List.length x.1 <= 4294967296) = true := hx
  simp only [cl, hx, cond_true, Qb7])⟩
theorem s_bt : C_bt (fun x => decide (List.length x.1 <= 4294967296)) (fun x => (idxOf (fun d : MTst => !passed d) x.1 0, ())) := S_bt s_bs fun x hx => ⟨List.length x.1 + 1, (ev_bt _ x.1 x.2.1).trans (by
  have hx : List.length x.1 <= 4294967296 := of_decide_eq_true hx
  refine Qc2 (α := MTst) x.1 (fun d => !passed d) (fun k i => r_bt (fun x => (!passed x.1, ())) (x.1, x.2.1, ()) k pt1 (h0_bt x.1 x.2.1 (List.length x.1 : Int) (i : Int))) (fun k => ?_) (fun k i y r hd hi => ?_)
  · rw [rd0_bt, Qac (Nat.le_refl _)]; rfl
  · rw [rd0_bt, Qae hi, Qaf hi, Qag (by omega), Qab hd]; rfl)⟩
theorem s_bu : C_bu (fun x => decide (List.length x.1 <= 4294967296)) (fun x => (List.any x.1 (fun d : MTst => !passed d), ())) := S_bu s_bt fun x hx => ⟨0, (ev_bu 0 x.1 x.2.1).trans (by
  have hx : decide (List.length x.1 <= 4294967296) = true := hx
  simp only [cl, hx, cond_true, Qb7])⟩
theorem s_bv : C_bv (fun x => decide (List.length x.1 <= 4294967296)) (fun x => (idxOf (fun d : Bool => x.2.1 == d) x.1 0, ())) := S_bv fun x hx => ⟨List.length x.1 + 1, (ev_bv _ x.1 x.2.1).trans (by
  have hx : List.length x.1 <= 4294967296 := of_decide_eq_true hx
  refine Qc2 (α := Bool) x.1 (fun d => x.2.1 == d) (fun k i => r_bv (x.1, x.2.1, ()) k pt1 (h0_bv x.1 x.2.1 (List.length x.1 : Int) (i : Int))) (fun k => ?_) (fun k i y r hd hi => ?_)
  · rw [rd0_bv, Qac (Nat.le_refl _)]; rfl
  · rw [rd0_bv, Qae hi, Qaf hi, Qag (by omega), Qab hd]; rfl)⟩
theorem s_bw : C_bw (fun x => decide (List.length x.1 <= 4294967296)) (fun x => (List.any x.1 (fun d : Bool => x.2.1 == d), ())) := S_bw s_bv fun x hx => ⟨0, (ev_bw 0 x.1 x.2.1).trans (by
  have hx : decide (List.length x.1 <= 4294967296) = true := hx
  simp only [cl, hx, cond_true, Qb7])⟩
theorem s_bx : C_bx (fun x => mixPre x.1 x.2.1) (fun x => (mixes x.1 x.2.1, ())) := S_bx fun x hx => by
  obtain ⟨m, l, u⟩ := x
  change List Int at l
  obtain ⟨h1, h2⟩ := Qhc.1 hx
  have h2 : List.length l <= 4294967296 := h2
  refine ⟨List.length l + 1, (ev_bx _ m l).trans ?_⟩
  have := Qa1 (σ := Int) l (fun k i c => r_bx (m, l, ()) k pt1 (h0_bx m l c (List.length l : Int) (i : Int))) (fun r i c => (mixes c r, ())) (fun i c => mkR c) (fun k c hc => by
    rw [rd0_bx, Qac (Nat.le_refl _)]; rfl) (fun k i y r c hd hi hc => by
    refine .inr ⟨mix c y, mix_r hc, ?_, rfl⟩
    rw [rd0_bx, Qae hi, Qaf hi, Qag (by omega), Qab hd, mix_w hc]; rfl) l.length 0 m (by omega) h1
  simpa using this
theorem Qmg {m : Int} {l : List Int} (h : mkR m) (hl : l.length <= 4) : mixPre m l = true := Qhc.2 ⟨h, by omega⟩
theorem Qeh : ∀ (l : List MDec) (i : Nat) (m : Int), foldI (fun _ m (v : MDec) => mix (mix m v.1) v.2) i m l = markMore m l
  | [], i, m => rfl
  | v :: r, i, m => Qeh r (i + 1) _
theorem Qe4 : ∀ (l : List MTst) (i : Nat) (m : Int), foldI (fun _ m t => markTst m t) i m l = markTsts m l
  | [], i, m => rfl
  | v :: r, i, m => Qe4 r (i + 1) _
theorem Qe5 : ∀ (l : List Bool) (i : Nat) (m : Int), foldI (fun i m d => markDev m i d) i m l = markDevs i m l
  | [], i, m => rfl
  | v :: r, i, m => Qe5 r (i + 1) _
theorem s_by : C_by (fun x => smB x.1) (fun x => (batMark x.1, ())) := S_by s_bx fun x hx => by
  obtain ⟨b, u⟩ := x
  change MBat at b
  have hx : smB b = true := hx
  obtain ⟨h1, h2, h3, h4⟩ := Qa9.1 hx
  refine WithFuel.eq ?_
  show WithFuel (fun k => E_by (fun x => (mixes x.1 x.2.1, ())) (fun x => mixPre x.1 x.2.1) k (b, ())) _
  have ev := fun k => ev_by (g_bx := fun x => (mixes x.1 x.2.1, ())) (p_bx := fun x => mixPre x.1 x.2.1) k b
  have hp := fun (m : Int) (l : List Int) (h : mkR m) (hl : l.length <= 4) => Qmg h hl
  simp only [ev, cl, hp _ _ one_r (show List.length [b.1] <= 4 from Nat.le_of_ble_eq_true rfl), cond_true]
  refine Qbv b.2.2.1 (fun _ m t => markTst m t) mkR (fun k i m => r_by (fun x => (mixes x.1 x.2.1, ())) (fun x => mixPre x.1 x.2.1) (b, ()) k pt0 (h0_by b m (List.length b.2.2.1 : Int) (i : Int))) _ (fun i s x hs => Qih hs) (mix 1 b.1) (mix_r one_r) (fun hr => ?_) (fun i t r m hd hi hm hk => ?_)
  · rw [Qe4] at hr ⊢
    have hdev := Qbv (P := fun v => v = (batMark b, ())) b.2.2.2.2.2 (fun i m d => markDev m i d) mkR (fun k i m => r_by (fun x => (mixes x.1 x.2.1, ())) (fun x => mixPre x.1 x.2.1) (b, ()) k pt2 (h2_by b m (List.length b.2.2.2.2.2 : Int) (i : Int))) (fun i s x hs => Qii hs) (markTsts (mix 1 b.1) b.2.2.1) hr (fun hr => ?_) (fun i d r m hd hi hm hk => ?_)
    · obtain ⟨k, hk⟩ := hdev
      refine ⟨k + 1, ?_⟩
      dsimp only
      rw [rd0_by, lt_eq, Qac (Nat.le_refl _)]
      exact hk
    · rw [Qe5]
      refine Qik 1 ?_
      dsimp only
      rw [rd2_by, Qac (Nat.le_refl _)]; rfl
    · obtain ⟨k, v, hk, hv⟩ := hk
      refine ⟨k + 1, v, ?_, hv⟩
      dsimp only
      rw [rd2_by, Qae hi, Qaf hi, Qag (by omega), Qab hd]
      have g1 := hp m [((i + 1 : Nat) : Int)] hm (Nat.le_of_ble_eq_true rfl)
      have g2 := hp (mix m ((i + 1 : Nat) : Int)) [77] (mix_r hm) (Nat.le_of_ble_eq_true rfl)
      have g2' : mixPre (mixes m [((i + 1 : Nat) : Int)]) [77] = true := g2
      simp only [cl, g1, g2', cond_true]
      cases d
      · exact hk
      · exact hk
  · have hmore := Qbv (P := fun v => v = (batMark b, ())) t.2.2.2.2 (fun _ m (v : MDec) => mix (mix m v.1) v.2) mkR (fun k j m => r_by (fun x => (mixes x.1 x.2.1, ())) (fun x => mixPre x.1 x.2.1) (b, ()) k pt8 (h1_by b m (List.length b.2.2.1 : Int) (i : Int) t.2.2.2.2 (List.length t.2.2.2.2 : Int) (j : Int))) (fun i s x hs => mix_r (mix_r hs)) (markHead m t) (Qe3 hm) (fun hr => ?_) (fun j v r' m' hd' hj hm' hk' => ?_)
    · obtain ⟨k, v, hk, hv⟩ := hmore
      refine ⟨k + 1, v, ?_, hv⟩
      dsimp only
      rw [rd0_by, lt_eq, Qae hi, Qaf hi, Qab hd]
      have g1 := hp m [t.2.1, t.2.2.1.1, t.2.2.1.2, t.2.2.2.1] hm (Nat.le_of_ble_eq_true rfl)
      simp only [cl, g1, cond_true]
      exact hk
    · rw [Qeh]
      obtain ⟨k, v, hk, hv⟩ := hk
      refine ⟨k + 1, v, ?_, hv⟩
      dsimp only
      rw [rd1_by, Qac (Nat.le_refl _), Qag (i := i) (by omega)]
      exact hk
    · obtain ⟨k, v', hk, hv⟩ := hk'
      refine ⟨k + 1, v', ?_, hv⟩
      have hlt : List.length t.2.2.2.2 <= 4294967296 := h2 t (Qby hd)
      dsimp only
      rw [rd1_by, Qae hj, Qaf hj, Qag (by omega), Qab hd']
      have g1 := hp m' [v.1, v.2] hm' (Nat.le_of_ble_eq_true rfl)
      simp only [cl, g1, cond_true]
      exact hk
theorem s_bz : C_bz (fun x => smB x.1) (fun x => (batSigned x.1 x.2.1 x.2.2.1, ())) := S_bz s_by fun x hx => ⟨List.length x.1.2.2.2.2.1 + 1, (ev_bz _ x.1 x.2.1 x.2.2.1).trans (by
  obtain ⟨b, role, but, u⟩ := x
  change MBat at b
  have hx : smB b = true := hx
  have h3 := (Qa9.1 hx).2.2.1
  simp only [cl, hx, cond_true]
  have := Qa1 (σ := Unit) b.2.2.2.2.1 (fun k i _ => r_bz (fun x => (batMark x.1, ())) (fun x => smB x.1) (b, role, but, ()) k pt0 (h0_bz b role but (batMark b) (List.length b.2.2.2.2.1 : Int) (i : Int))) (fun r i _ => (signedBy (batMark b) role but r, ())) (fun _ _ => True) (fun k s _ => by
    rw [rd0_bz, Qac (Nat.le_refl _)]; rfl) (fun k i y r s hd hi _ => by
    rw [rd0_bz, Qae hi, Qaf hi, Qag (by omega), Qab hd]
    have e : signedBy (batMark b) role but (y :: r) = bif decide (y.2.1 = role) && (decide (y.2.2 = batMark b) && !decide (y.1 = but)) then y.1 else signedBy (batMark b) role but r := rfl
    rw [e]
    cases decide (y.2.1 = role)
    · exact .inr ⟨(), trivial, rfl, rfl⟩
    · cases decide (y.2.2 = batMark b)
      · exact .inr ⟨(), trivial, rfl, rfl⟩
      · cases decide (y.1 = but)
        · exact .inl rfl
        · exact .inr ⟨(), trivial, rfl, rfl⟩) b.2.2.2.2.1.length 0 () (by omega) trivial
  rw [List.drop_zero] at this
  exact this)⟩
theorem s_c0 : C_c0 (fun x => smB x.2.2.1) (fun x => (decide (x.1.2.1 = 2) && (decide (x.1.2.2 = x.2.1) && decide (0 < batSigned x.2.2.1 3 x.1.1)), ())) := S_c0 s_bz fun x hx => ⟨0, (ev_c0 0 x.1 x.2.1 x.2.2.1).trans (by
  have hx : smB x.2.2.1 = true := hx
  simp only [cl, hx, cond_true]
  have key : ∀ a b c : Bool, (bif a then (bif b then some (c, ()) else some (false, ())) else some (false, ())) = some (a && (b && c), ()) := by intro a b c; cases a <;> cases b <;> rfl
  exact key _ _ _)⟩
theorem s_c1 : C_c1 (fun x => decide (List.length x.1 <= 4294967296) && smB x.2.1.2.1) (fun x => (idxOf (fun s : MSig => decide (s.2.1 = 2) && (decide (s.2.2 = x.2.1.1) && decide (0 < batSigned x.2.1.2.1 3 s.1))) x.1 0, ())) := S_c1 s_c0 fun x hx => ⟨List.length x.1 + 1, (ev_c1 _ x.1 x.2.1).trans (by
  obtain ⟨hx, hb⟩ := Bool.and_eq_true_iff.1 hx
  have hx : List.length x.1 <= 4294967296 := of_decide_eq_true hx
  refine Qc2 (α := MSig) x.1 (fun s : MSig => decide (s.2.1 = 2) && (decide (s.2.2 = x.2.1.1) && decide (0 < batSigned x.2.1.2.1 3 s.1))) (fun k i => r_c1 (fun x => (decide (x.1.2.1 = 2) && (decide (x.1.2.2 = x.2.1) && decide (0 < batSigned x.2.2.1 3 x.1.1)), ())) (fun x => smB x.2.2.1) (x.1, x.2.1, ()) k pt1 (h0_c1 x.1 x.2.1 (List.length x.1 : Int) (i : Int))) (fun k => ?_) (fun k i y r hd hi => ?_)
  · rw [rd0_c1, Qac (Nat.le_refl _)]; rfl
  · rw [rd0_c1, Qae hi, Qaf hi, Qag (by omega), Qab hd]
    simp only [cl, hb, cond_true])⟩
theorem s_c2 : C_c2 (fun x => decide (List.length x.1 <= 4294967296) && smB x.2.1.2.1) (fun x => (List.any x.1 (fun s : MSig => decide (s.2.1 = 2) && (decide (s.2.2 = x.2.1.1) && decide (0 < batSigned x.2.1.2.1 3 s.1))), ())) := S_c2 s_c1 fun x hx => ⟨0, (ev_c2 0 x.1 x.2.1).trans (by
  have hx : (decide (List.length x.1 <= 4294967296) && smB x.2.1.2.1) = true := hx
  simp only [cl, hx, cond_true, Qb7])⟩
theorem s_c3 : C_c3 (fun x => smB x.1) (fun x => (gate x.1, ())) := S_c3 s_bu s_bw s_by s_c2 fun x hx => ⟨0, (ev_c3 0 x.1).trans (by
  have hx : smB x.1 = true := hx
  obtain ⟨h1, h2, h3, h4⟩ := Qa9.1 (show smB _ = true from hx)
  have h1 : decide (List.length x.1.2.2.1 <= 4294967296) = true := decide_eq_true h1
  have h3 : decide (List.length x.1.2.2.2.2.1 <= 4294967296) = true := decide_eq_true h3
  have h4 : decide (List.length x.1.2.2.2.2.2 <= 4294967296) = true := decide_eq_true h4
  simp only [cl, hx, h1, h3, h4, cond_true, Bool.and_self]
  unfold gate shutAll hands
  have e1 : (!(List.any x.1.2.2.1 fun d : MTst => !passed d)) = List.all x.1.2.2.1 passed := Qcg _ _
  have e2 : (!(List.any x.1.2.2.2.2.2 fun d : Bool => true == d)) = List.all x.1.2.2.2.2.2 (!·) := by
    rw [<- Qcg (fun d : Bool => !d)]
    congr 2
    funext d; cases d <;> rfl
  rw [<- e1, <- e2]
  cases (List.any x.1.2.2.1 fun d : MTst => !passed d) <;> cases (List.any x.1.2.2.2.2.2 fun d : Bool => true == d) <;> rfl)⟩
theorem s_c4 : C_c4 (fun x => smB x.1) (fun x => (batOk x.1, ())) := S_c4 s_iin s_bl s_br s_c3 fun x hx => by
  obtain ⟨b, u⟩ := x
  change MBat at b
  have hx : smB b = true := hx
  obtain ⟨h1, h2, h3, h4⟩ := Qa9.1 (show smB _ = true from hx)
  have key : ∃ k, r_c4 (fun x => (inq x.1 x.2.1 x.2.2.1, ())) (fun x => (tstOk x.1, ())) (fun x => decide (List.length x.1.2.2.2.2 <= 4294967296)) (fun x => (List.any x.1 (fun d : MSig => !sigOk d), ())) (fun x => decide (List.length x.1 <= 4294967296)) (fun x => (gate x.1, ())) (fun x => smB x.1) (b, ()) k pt0 (h0_c4 b (List.length b.2.2.1 : Int) (0 : Int)) =
      some (riseL tstOk (fun t => t.1.1) none b.2.2.1 && (decide (b.2.2.2.2.1.length <= 6) && (b.2.2.2.2.1.all sigOk && (decide (b.2.2.2.2.2.length <= 3) && (!freed b.2.2.2.1 || gate b)))), ()) := by
    refine Qil tstOk (fun t : MTst => t.1.1) b.2.2.1 _ (fun k i => r_c4 (fun x => (inq x.1 x.2.1 x.2.2.1, ())) (fun x => (tstOk x.1, ())) (fun x => decide (List.length x.1.2.2.2.2 <= 4294967296)) (fun x => (List.any x.1 (fun d : MSig => !sigOk d), ())) (fun x => decide (List.length x.1 <= 4294967296)) (fun x => (gate x.1, ())) (fun x => smB x.1) (b, ()) k pt0 (h0_c4 b (List.length b.2.2.1 : Int) (i : Int))) (fun _ => ⟨1, ?_⟩) (fun k i t r hd hi => ?_)
    · rw [rd0_c4, lt_eq, lt_eq, Qac (Nat.le_refl _)]
      have h3' : decide (List.length b.2.2.2.2.1 <= 4294967296) = true := decide_eq_true h3
      simp only [cl, hx, h3', cond_true, cond_false]
      have e1 : (!(List.any b.2.2.2.2.1 fun d : MSig => !sigOk d)) = List.all b.2.2.2.2.1 sigOk := Qcg _ _
      rw [<- e1]
      have d1 : decide (b.2.2.2.2.1.length <= 6) = !decide ((6 : Int) < (List.length b.2.2.2.2.1 : Int)) := by
        by_cases h : b.2.2.2.2.1.length <= 6
        · rw [decide_eq_true h, decide_eq_false (by omega)]; rfl
        · rw [decide_eq_false h, decide_eq_true (by omega)]; rfl
      have d2 : decide (b.2.2.2.2.2.length <= 3) = !decide ((3 : Int) < (List.length b.2.2.2.2.2 : Int)) := by
        by_cases h : b.2.2.2.2.2.length <= 3
        · rw [decide_eq_true h, decide_eq_false (by omega)]; rfl
        · rw [decide_eq_false h, decide_eq_true (by omega)]; rfl
      rw [d1, d2]
      unfold freed
      cases decide ((6 : Int) < (List.length b.2.2.2.2.1 : Int))
      · cases (List.any b.2.2.2.2.1 fun d : MSig => !sigOk d)
        · cases decide ((3 : Int) < (List.length b.2.2.2.2.2 : Int))
          · cases decide (b.2.2.2.1 = 2) <;> cases decide (b.2.2.2.1 = 4) <;> cases gate b <;> rfl
          · rfl
        · rfl
      · rfl
    · rw [rd0_c4, lt_eq, lt_eq, Qae hi, Qaf hi, Qag (by omega)]
      have hp : decide (List.length (rdL (e := S_TstTest) b.2.2.1 (i : Int)).2.2.2.2 <= 4294967296) = true := by
        rw [Qab hd]; exact decide_eq_true (h2 t (Qby hd))
      simp only [cl, hp, cond_true]
      exact Qim tstOk (fun t : MTst => t.1.1) h1 hd hi _ (fun j => rdL (e := S_TstTest) b.2.2.1 j) (fun j hj => Qkb j hj)
  obtain ⟨k, hk⟩ := key
  refine ⟨k, (ev_c4 k b).trans ?_⟩
  unfold batOk batOkA tstsOk
  simp only [hk]
  cases inq b.1 0 5
  · rfl
  · cases inq b.2.1 1 10000
    · rfl
    · cases inq (List.length b.2.2.1 : Int) 1 4
      · rfl
      · cases inq b.2.2.2.1 1 4
        · rfl
        · simp only [Bool.true_and, Bool.and_assoc]; rfl
end Go.Proofs.Ytijolcgmciclhaa

set_option linter.unusedVariables false
set_option linter.unusedSimpArgs false
namespace Go.Proofs.Ytijolcgmciclhaa
open Go.Vm
theorem s_at : C_at (fun _ => true) (fun x => (mixW x.1 x.2.1, ())) := S_at fun x _ => ⟨0, ev_at 0 x.1 x.2.1⟩
theorem s_au : C_au (fun x => smB x.1) (fun x => (batMark x.1, ())) := S_au s_at fun x hx => by
  obtain ⟨b, u⟩ := x
  change MBat at b
  have hx : smB b = true := hx
  obtain ⟨h1, h2, h3, h4⟩ := Qa9.1 hx
  refine WithFuel.eq ?_
  show WithFuel (fun k => E_au (fun x => (mixW x.1 x.2.1, ())) k (b, ())) _
  have ev := fun k => ev_au (g_at := fun x => (mixW x.1 x.2.1, ())) k b
  simp only [ev, Qcd one_r]
  refine Qbv b.2.2.1 (fun _ m t => markTst m t) mkR (fun k i m => r_au (fun x => (mixW x.1 x.2.1, ())) (b, ()) k pt0 (h0_au b m (i : Int))) _ (fun i s x hs => Qih hs) (mix 1 b.1) (mix_r one_r) (fun hr => ?_) (fun i t r m hd hi hm hk => ?_)
  · rw [Qe4] at hr ⊢
    have hdev := Qbv (P := fun v => v = (batMark b, ())) b.2.2.2.2.2 (fun i m d => markDev m i d) mkR (fun k i m => r_au (fun x => (mixW x.1 x.2.1, ())) (b, ()) k pt2 (h2_au b m (i : Int))) (fun i s x hs => Qii hs) (markTsts (mix 1 b.1) b.2.2.1) hr (fun hr => ?_) (fun i d r m hd hi hm hk => ?_)
    · obtain ⟨k, hk⟩ := hdev
      refine ⟨k + 1, ?_⟩
      dsimp only
      rw [rd0_au, Qac (Nat.le_refl _)]
      exact hk
    · rw [Qe5]
      refine Qik 1 ?_
      dsimp only
      rw [rd2_au, Qac (Nat.le_refl _)]; rfl
    · obtain ⟨k, v, hk, hv⟩ := hk
      refine ⟨k + 1, v, ?_, hv⟩
      dsimp only
      rw [rd2_au, Qae hi, Qaf hi, Qag (by omega), Qab hd]
      simp only [Qcd hm, Qcd (mix_r hm), cond_true]
      cases d
      · exact hk
      · exact hk
  · have hmore := Qbv (P := fun v => v = (batMark b, ())) t.2.2.2.2 (fun _ m (v : MDec) => mix (mix m v.1) v.2) mkR (fun k j m => r_au (fun x => (mixW x.1 x.2.1, ())) (b, ()) k pt6 (h1_au b m (i : Int) (j : Int) t)) (fun i s x hs => mix_r (mix_r hs)) (markHead m t) (Qe3 hm) (fun hr => ?_) (fun j v r' m' hd' hj hm' hk' => ?_)
    · obtain ⟨k, v, hk, hv⟩ := hmore
      refine ⟨k + 1, v, ?_, hv⟩
      dsimp only
      rw [rd0_au, Qae hi, Qaf hi, Qab hd]
      simp only [Qcd hm, Qcd (mix_r hm), Qcd (mix_r (mix_r hm)), Qcd (mix_r (mix_r (mix_r hm))), cond_true]
      exact hk
    · rw [Qeh]
      obtain ⟨k, v, hk, hv⟩ := hk
      refine ⟨k + 1, v, ?_, hv⟩
      dsimp only
      rw [rd1_au, Qac (Nat.le_refl _), Qag (i := i) (by omega)]
      exact hk
    · obtain ⟨k, v', hk, hv⟩ := hk'
      refine ⟨k + 1, v', ?_, hv⟩
      have hlt : List.length t.2.2.2.2 <= 4294967296 := h2 t (Qby hd)
      dsimp only
      rw [rd1_au, Qae hj, Qaf hj, Qag (i := j) (by omega), Qab hd']
      simp only [Qcd hm', Qcd (mix_r hm'), cond_true]
      exact hk
theorem s_av : C_av (fun x => smB x.1) (fun x => (batSigned x.1 x.2.1 x.2.2.1, ())) := S_av s_au fun x hx => ⟨List.length x.1.2.2.2.2.1 + 1, (ev_av _ x.1 x.2.1 x.2.2.1).trans (by
  obtain ⟨b, role, but, u⟩ := x
  change MBat at b
  have hx : smB b = true := hx
  have h3 := (Qa9.1 hx).2.2.1
  have := Qa1 (σ := Unit) b.2.2.2.2.1 (fun k i _ => r_av (fun x => (batMark x.1, ())) (fun x => smB x.1) (b, role, but, ()) k pt1 (h0_av b role but (i : Int))) (fun r i _ => (signedBy (batMark b) role but r, ())) (fun _ _ => True) (fun k s _ => by
    rw [rd0_av, Qac (Nat.le_refl _)]; rfl) (fun k i y r s hd hi _ => by
    have h0i : decide ((0 : Int) <= (i : Int)) = true := decide_eq_true (by omega)
    rw [rd0_av, Qag (by omega), Qab hd]
    simp only [cl, hx, h0i, Qaf hi, cond_true]
    have e : signedBy (batMark b) role but (y :: r) = bif decide (y.2.1 = role) && (decide (y.2.2 = batMark b) && !decide (y.1 = but)) then y.1 else signedBy (batMark b) role but r := rfl
    rw [e]
    cases decide (y.2.1 = role)
    · exact .inr ⟨(), trivial, rfl, rfl⟩
    · cases decide (y.1 = but)
      · cases decide (y.2.2 = batMark b)
        · exact .inr ⟨(), trivial, rfl, rfl⟩
        · exact .inl rfl
      · cases decide (y.2.2 = batMark b)
        · exact .inr ⟨(), trivial, rfl, rfl⟩
        · exact .inr ⟨(), trivial, rfl, rfl⟩) b.2.2.2.2.1.length 0 () (by omega) trivial
  rw [List.drop_zero] at this
  exact this)⟩
theorem s_aw : C_aw (fun x => smB x.1 && sigsOk x.1) (fun x => (hands x.1, ())) := S_aw s_au s_av fun x hx => by
  obtain ⟨b, u⟩ := x
  change MBat at b
  obtain ⟨hx, hs⟩ := Bool.and_eq_true_iff.1 hx
  have hx : smB b = true := hx
  have hs : sigsOk b = true := hs
  have h3 := (Qa9.1 hx).2.2.1
  have go : ∀ (m : Nat) (u : Int), 1 <= u -> u + m = 6 -> ∃ k, r_aw (fun x => (batMark x.1, ())) (fun x => smB x.1) (fun x => (batSigned x.1 x.2.1 x.2.2.1, ())) (fun x => smB x.1) (b, ()) k pt1 (h0_aw b u) = some (b.2.2.2.2.1.any (fun s => decide (u <= s.1) && (decide (s.1 <= 5) && hand1 b s)), ()) := by
    intro m
    induction m with
    | zero =>
      intro u h1 h
      have : u = 6 := by omega
      subst this
      refine ⟨1, ?_⟩
      rw [rd0_aw, Qk9]; rfl
    | succ m ih =>
      intro u h1 h
      have hw : w64 (u + 1) = u + 1 := Qad (by omega) (by omega)
      obtain ⟨k, hk⟩ := ih (u + 1) (by omega) (by omega)
      obtain ⟨k, hk⟩ := Qmb (α := MSig) b.2.2.2.2.1 (fun s => decide (s.1 = u) && hand1 b s) _ (fun k i => r_aw (fun x => (batMark x.1, ())) (fun x => smB x.1) (fun x => (batSigned x.1 x.2.1 x.2.2.1, ())) (fun x => smB x.1) (b, ()) k pt5 (h1_aw b u (i : Int))) ⟨k + 1, by rw [rd1_aw, Qac (Nat.le_refl _), hw]; exact hk⟩ (fun k i s r hd hi => by
        rw [rd1_aw, Qae hi, Qaf hi, Qag (by omega), Qab hd]
        simp only [cl, hx, cond_true]
        unfold hand1
        by_cases e : s.1 = u
        · subst e
          rw [decide_eq_true rfl]
          cases decide (s.2.1 = 2)
          · rfl
          · cases decide (s.2.2 = batMark b)
            · rfl
            · cases decide (0 < batSigned b 3 s.1) <;> rfl
        · rw [decide_eq_false e]; rfl)
      refine ⟨k + 1, ?_⟩
      rw [rd0_aw, decide_eq_true (show u <= 5 by omega), <- Qk8 b (show u <= 5 by omega)]
      exact hk
  obtain ⟨k, hk⟩ := go 5 1 (Int.le_refl _) rfl
  exact ⟨k, (ev_aw k b).trans (by rw [hk, <- Qk7 hs])⟩
theorem s_ax : C_ax (fun x => smB x.1 && sigsOk x.1) (fun x => (gate x.1, ())) := S_ax s_aw fun x hx => by
  obtain ⟨b, u⟩ := x
  change MBat at b
  have hx : (smB b && sigsOk b) = true := hx
  obtain ⟨h1, h2, h3, h4⟩ := Qa9.1 (Bool.and_eq_true_iff.1 hx).1
  obtain ⟨k, hk⟩ := Qfo (α := Bool) b.2.2.2.2.2 (!·) (hands b) (fun k i => r_ax (fun x => (hands x.1, ())) (fun x => smB x.1 && sigsOk x.1) (b, ()) k pt0 (h1_ax b (i : Int))) (fun _ => ⟨1, by
    rw [rd1_ax, Qac (Nat.le_refl _), cl_eq hx]; rfl⟩) (fun k i d r hd hi => by
    rw [rd1_ax, Qae hi, Qaf hi, Qag (by omega), Qab hd]
    cases d <;> rfl)
  obtain ⟨k, hk⟩ := Qfo (α := MTst) b.2.2.1 passed _ (fun k i => r_ax (fun x => (hands x.1, ())) (fun x => smB x.1 && sigsOk x.1) (b, ()) k pt1 (h0_ax b (i : Int))) (fun _ => ⟨k + 1, by
    rw [rd0_ax, Qac (Nat.le_refl _)]; exact hk⟩) (fun k i t r hd hi => by
    rw [rd0_ax, Qae hi, Qaf hi, Qag (by omega), Qab hd]
    unfold passed
    cases decide (t.2.1 = 3) <;> rfl)
  refine ⟨k, (ev_ax k b).trans (hk.trans ?_)⟩
  unfold gate shutAll
  rw [Bool.and_assoc]
theorem s_ay : C_ay (fun x => smB x.1) (fun x => (batOk x.1, ())) := S_ay s_af s_as s_ax fun x hx => by
  obtain ⟨b, u⟩ := x
  change MBat at b
  have hx : smB b = true := hx
  obtain ⟨h1, h2, h3, h4⟩ := Qa9.1 hx
  have key : ∃ k, r_ay (fun x => (inq x.1 x.2.1 x.2.2.1, ())) (fun x => (tstOk x.1, ())) (fun x => (gate x.1, ())) (fun x => smB x.1 && sigsOk x.1) (b, ()) k pt0 (h0_ay b (0 : Int)) =
      some (riseL tstOk (fun t => t.1.1) none b.2.2.1 && (b.2.2.2.2.1.all sigOk && (!freed b.2.2.2.1 || gate b)), ()) := by
    refine Qil tstOk (fun t : MTst => t.1.1) b.2.2.1 _ (fun k i => r_ay (fun x => (inq x.1 x.2.1 x.2.2.1, ())) (fun x => (tstOk x.1, ())) (fun x => (gate x.1, ())) (fun x => smB x.1 && sigsOk x.1) (b, ()) k pt0 (h0_ay b (i : Int))) (fun _ => ?_) (fun k i t r hd hi => ?_)
    · obtain ⟨k, hk⟩ := Qfo (α := MSig) b.2.2.2.2.1 sigOk (!freed b.2.2.2.1 || gate b) (fun k i => r_ay (fun x => (inq x.1 x.2.1 x.2.2.1, ())) (fun x => (tstOk x.1, ())) (fun x => (gate x.1, ())) (fun x => smB x.1 && sigsOk x.1) (b, ()) k pt2 (h1_ay b (i : Int))) (fun hs => ⟨1, by
        have hp : (smB b && sigsOk b) = true := by rw [hx]; exact hs
        rw [rd1_ay, Qac (Nat.le_refl _)]
        simp only [cl, hp, cond_true, cond_false]
        unfold freed
        cases decide (b.2.2.2.1 = 2) <;> cases decide (b.2.2.2.1 = 4) <;> rfl⟩) (fun k i s r hd hi => by
        rw [rd1_ay, Qae hi, Qaf hi, Qag (by omega), Qab hd]
        unfold sigOk signs
        simp only [cond_true]
        cases inq s.1 1 5
        · rfl
        · cases decide (s.2.1 = 2)
          · cases decide (s.2.1 = 3)
            · rfl
            · cases inq s.2.2 0 999982 <;> rfl
          · cases inq s.2.2 0 999982 <;> rfl)
      exact ⟨k + 1, by rw [rd0_ay, Qac (Nat.le_refl _)]; exact hk⟩
    · rw [rd0_ay, Qae hi, Qaf hi, Qag (by omega)]
      exact Qim tstOk (fun t : MTst => t.1.1) h1 hd hi _ (fun j => rdL (e := S_TstTest) b.2.2.1 j) (fun j hj => Qkb j hj)
  obtain ⟨k, hk⟩ := key
  refine ⟨k, (ev_ay k b).trans ?_⟩
  have d1 : decide (b.2.2.2.2.1.length <= 6) = !decide ((6 : Int) < (List.length b.2.2.2.2.1 : Int)) := by
    by_cases h : b.2.2.2.2.1.length <= 6
    · rw [decide_eq_true h, decide_eq_false (by omega)]; rfl
    · rw [decide_eq_false h, decide_eq_true (by omega)]; rfl
  have d2 : decide (b.2.2.2.2.2.length <= 3) = !decide ((3 : Int) < (List.length b.2.2.2.2.2 : Int)) := by
    by_cases h : b.2.2.2.2.2.length <= 3
    · rw [decide_eq_true h, decide_eq_false (by omega)]; rfl
    · rw [decide_eq_false h, decide_eq_true (by omega)]; rfl
  show _ = some (batOk b, ())
  unfold batOk batOkA tstsOk
  rw [d1, d2]
  simp only [hk]
  cases inq b.1 0 5
  · rfl
  · cases inq b.2.1 1 10000
    · rfl
    · cases inq (List.length b.2.2.1 : Int) 1 4
      · rfl
      · cases inq b.2.2.2.1 1 4
        · rfl
        · cases decide ((6 : Int) < (List.length b.2.2.2.2.1 : Int))
          · cases decide ((3 : Int) < (List.length b.2.2.2.2.2 : Int))
            · simp only [Bool.true_and, Bool.and_true, Bool.and_assoc, Bool.not_false]; rfl
            · simp only [Bool.true_and, Bool.and_true, Bool.and_false, Bool.false_and, Bool.not_true]; rfl
          · simp only [Bool.true_and, Bool.and_true, Bool.and_false, Bool.false_and, Bool.not_true]; rfl
end Go.Proofs.Ytijolcgmciclhaa

set_option linter.unusedVariables false
set_option linter.unusedSimpArgs false
namespace Go.Proofs.Ytijolcgmciclhaa
open Go.Vm
theorem Qgn {S : Sh} {l : List S.den} {i : Nat} {x : S.den} (h : i < l.length) : rdL (e := S) (l.set i x) (i : Int) = x := by
  unfold rdL
  rw [Int.toNat_natCast, List.getD_eq_getElem?_getD, List.getElem?_set_self h]; rfl
theorem Qmh (a b : Bool) : same a b = (a == b) := by
  rw [Bool.eq_iff_iff, Qbb]; exact beq_iff_eq.symm
def wfTsts (l : List MTst) : Bool := okLen l.length && l.all (fun t => okLen t.2.2.2.2.length)
def wfBat (b : MBat) : Bool := wfTsts b.2.2.1 && (okLen b.2.2.2.2.1.length && okLen b.2.2.2.2.2.length)
def smTs (l : List MTst) : Bool := decide (l.length <= 4294967296) && l.all (fun t => decide (t.2.2.2.2.length <= 4294967296))
theorem Qgo {l : List MTst} : smTs l = true ↔ l.length <= 4294967296 /\ ∀ t ∈ l, t.2.2.2.2.length <= 4294967296 := by
  unfold smTs; simp only [Bool.and_eq_true, decide_eq_true_eq, List.all_eq_true]
theorem Qio {b : MBat} (h : smB b = true) : smTs b.2.2.1 = true /\ decide (List.length b.2.2.2.2.1 <= 4294967296) = true /\ decide (List.length b.2.2.2.2.2 <= 4294967296) = true := by
  obtain ⟨h1, h2, h3, h4⟩ := Qa9.1 h
  exact ⟨Qgo.2 ⟨h1, h2⟩, decide_eq_true h3, decide_eq_true h4⟩
theorem s_a3 : C_a3 (fun x => okLen (List.length x.1) && inq x.2.1 0 1048576) (fun x => (siN (List.length x.1) x.2.1, ())) := S_a3 fun x hx => ⟨0, (ev_a3 0 x.1 x.2.1).trans (by
  have h := Bool.and_eq_true_iff.1 hx
  have h2 := Qar.1 h.2
  exact p_szLen _ _ (Qbu.1 h.1) h2.1 h2.2)⟩
theorem s_a4 : C_a4 (fun x => okLen (List.length x.1) && inq x.2.1 0 1048576) (fun x => (siN (List.length x.1) x.2.1, ())) := S_a4 fun x hx => ⟨0, (ev_a4 0 x.1 x.2.1).trans (by
  have h := Bool.and_eq_true_iff.1 hx
  have h2 := Qar.1 h.2
  exact p_szLen _ _ (Qbu.1 h.1) h2.1 h2.2)⟩
theorem s_a2 : C_a2 (fun x => wfTsts x.1 && inq x.2.1 0 1048576) (fun x => (szList siTst x.1 x.2.1, ())) := S_a2 s_a1 fun x hx => ⟨List.length x.1 + 1, (ev_a2 _ x.1 x.2.1).trans (by
  obtain ⟨h1, h2⟩ := Bool.and_eq_true_iff.1 hx
  obtain ⟨h3, h4⟩ := Bool.and_eq_true_iff.1 h1
  obtain ⟨h5, h6⟩ := Qar.1 h2
  have h4 : ∀ s ∈ (x.1 : List MTst), okLen (List.length s.2.2.2.2) = true := fun s hs => List.all_eq_true.1 h4 s hs
  refine p_sz0 (Qbu.1 h3) h5 h6 fun hle => ?_
  have key : ∀ (xs : List MTst) (l l0 : Int), xs.length <= 1048576 -> 0 <= l -> l <= 1048576 -> (∀ s ∈ xs, okLen (List.length s.2.2.2.2) = true) -> r_a2 (fun x => (szN (List.length x.1.2.2.2.2) x.2.1, ())) (fun x => okLen (List.length x.1.2.2.2.2) && inq x.2.1 0 1048576) (xs, l0, ()) (xs.length + 1) pt2 (h0_a2 xs l0 l ((0 : Nat) : Int)) = some (szGo siTst xs l, ()) := fun xs l l0 hx h0 h1 hm => by
    refine Qnc xs siTst Qdg (fun k i l => r_a2 (fun x => (szN (List.length x.1.2.2.2.2) x.2.1, ())) (fun x => okLen (List.length x.1.2.2.2.2) && inq x.2.1 0 1048576) (xs, l0, ()) k pt2 (h0_a2 xs l0 l (i : Int))) (fun k l => ?_) (fun k i y r l hd hi g0 g1 => ?_) l h0 h1
    · rw [rd0_a2, Qac (Nat.le_refl _)]; rfl
    · rw [rd0_a2, Qae hi, Qaf hi, Qag (by omega), Qab hd]
      have : (okLen (List.length y.2.2.2.2) && inq l 0 1048576) = true := Bool.and_eq_true_iff.2 ⟨hm y (Qby hd), Qar.2 ⟨g0, g1⟩⟩
      rw [cl_eq this]
      rfl
  have e : w64 ((x.2.1 : Int) - ((List.length x.1 : Nat) : Int)) = x.2.1 - ((List.length x.1 : Nat) : Int) := Qad (Int.le_trans (by decide) (Int.sub_nonneg.2 hle)) (Int.le_trans (Int.sub_le_self _ (Int.natCast_nonneg _)) (Int.le_trans h6 (by decide)))
  rw [e]
  exact key x.1 _ x.2.1 (Int.ofNat_le.1 (show ((List.length x.1 : Nat) : Int) <= ((1048576 : Nat) : Int) from Int.le_trans hle h6)) (Int.sub_nonneg.2 hle) (Int.le_trans (Int.sub_le_self _ (Int.natCast_nonneg _)) h6) h4)⟩
theorem s_a5 : C_a5 (fun x => wfBat x.1 && inq x.2.1 0 1048576) (fun x => (siBat x.1 x.2.1, ())) := S_a5 s_a2 s_a3 s_a4 fun x hx => ⟨0, (ev_a5 0 x.1 x.2.1).trans (by
  obtain ⟨b, l, u⟩ := x
  change MBat at b
  change Int at l
  obtain ⟨h1, h2⟩ := Bool.and_eq_true_iff.1 hx
  have h1 : wfBat b = true := h1
  have h2 : inq l 0 1048576 = true := h2
  obtain ⟨w1, w23⟩ := Bool.and_eq_true_iff.1 h1
  obtain ⟨w2, w3⟩ := Bool.and_eq_true_iff.1 w23
  have h3 := Qar.1 h2
  dsimp only
  rw [cl_eq (Bool.and_eq_true_iff.2 ⟨w1, h2⟩)]
  refine p_sq fun g1 => ?_
  have k1 := Qie (f := siTst) (xs := b.2.2.1) Qdg h3.1
  rw [cl_eq (Bool.and_eq_true_iff.2 ⟨w2, Qar.2 ⟨g1, by dsimp only at g1 ⊢; omega⟩⟩)]
  refine p_sq fun g2 => ?_
  have k2 := Qmd (n := b.2.2.2.2.1.length) g1
  rw [cl_eq (Bool.and_eq_true_iff.2 ⟨w3, Qar.2 ⟨g2, by dsimp only at g1 g2 k2 ⊢; omega⟩⟩)]
  exact p_sq fun g3 => rfl)⟩
theorem s_ab : C_ab (fun _ => true) (fun x => (x.1, ())) := S_ab fun x _ => ⟨0, ev_ab 0 x.1⟩
theorem s_ad : C_ad (fun x => decide (List.length x.1 <= 4294967296)) (fun x => (x.1, ())) := S_ad fun x hx => ⟨List.length x.1 + 1, (ev_ad _ x.1).trans (by
  have hx : List.length x.1 <= 4294967296 := of_decide_eq_true hx
  rw [p_make hx]
  refine (Qe0 (α := Bool) x.1 (fun y => y) (fun k i out => r_ad  (x.1, ()) k pt0 (h0_ad x.1 (i : Int) out)) (fun k out ho => ?_) (fun k i y r out hd hi ho => ?_) _ ?_).trans ?_
  · rw [rd0_ad, Qac (Nat.le_refl _)]; rfl
  · rw [rd0_ad, Qae hi, Qae (ho.symm ▸ hi), Qaf hi, Qag (by omega), Int.toNat_natCast, Qab hd]; rfl
  · rw [List.length_replicate]; exact Int.toNat_natCast _
  · rw [List.map_id'])⟩
theorem s_ac : C_ac (fun x => decide (List.length x.1 <= 4294967296)) (fun x => (x.1, ())) := S_ac s_ab fun x hx => ⟨List.length x.1 + 1, (ev_ac _ x.1).trans (by
  have hx : List.length x.1 <= 4294967296 := of_decide_eq_true hx
  rw [p_make hx]
  refine (Qe0 (α := MSig) x.1 (fun y => y) (fun k i out => r_ac (fun x => (x.1, ())) (fun _ => true) (x.1, ()) k pt0 (h0_ac x.1 (i : Int) out)) (fun k out ho => ?_) (fun k i y r out hd hi ho => ?_) _ ?_).trans ?_
  · rw [rd0_ac, Qac (Nat.le_refl _)]; rfl
  · rw [rd0_ac, Qae hi, Qae (ho.symm ▸ hi), Qaf hi, Qag (by omega), Int.toNat_natCast, Qab hd]; try rw [cl_eq rfl]; rfl
  · rw [List.length_replicate]; exact Int.toNat_natCast _
  · rw [List.map_id'])⟩
theorem s_aa : C_aa (fun x => smTs x.1) (fun x => (x.1, ())) := S_aa s_a9 fun x hx => ⟨List.length x.1 + 1, (ev_aa _ x.1).trans (by
  obtain ⟨h1, h2⟩ := Qgo.1 hx
  have h1 : List.length x.1 <= 4294967296 := h1
  rw [p_make h1]
  refine (Qe0 (α := MTst) x.1 (fun y => y) (fun k i out => r_aa (fun x => (x.1, ())) (fun x => decide (List.length x.1.2.2.2.2 <= 4294967296)) (x.1, ()) k pt0 (h0_aa x.1 (i : Int) out)) (fun k out ho => ?_) (fun k i y r out hd hi ho => ?_) _ ?_).trans ?_
  · rw [rd0_aa, Qac (Nat.le_refl _)]; rfl
  · have h3 : decide (List.length y.2.2.2.2 <= 4294967296) = true := decide_eq_true (h2 y (Qby hd))
    rw [rd0_aa, Qae hi, Qae (ho.symm ▸ hi), Qaf hi, Qag (by omega), Int.toNat_natCast, Qab hd, cl_eq h3]; rfl
  · rw [List.length_replicate]; exact Int.toNat_natCast _
  · rw [List.map_id'])⟩
theorem s_ae : C_ae (fun x => smB x.1) (fun x => (x.1, ())) := S_ae s_aa s_ac s_ad fun x hx => ⟨0, (ev_ae 0 x.1).trans (by
  obtain ⟨h1, h2, h3⟩ := Qio hx
  rw [cl_eq h1, cl_eq h2, cl_eq h3])⟩
theorem s_cd : C_cd (fun _ => true) (fun x => (same x.1 x.2.1, ())) := S_cd fun x _ => ⟨0, (ev_cd 0 x.1 x.2.1).trans (by
  have key : ∀ a b : MSig, (bif (bif (decide (a.1 = b.1)) then false else true) then (some (false, ())) else (bif (bif (decide (a.2.1 = b.2.1)) then false else true) then (some (false, ())) else (bif (bif (decide (a.2.2 = b.2.2)) then false else true) then (some (false, ())) else (some (true, ()))))) = some (same a b, ()) := fun a b => by
    obtain ⟨a1, a2, a3⟩ := a
    obtain ⟨b1, b2, b3⟩ := b
    rw [Qfr (a1, a2, a3) b1 (b2, b3), Qfr (a2, a3) b2 b3]
    dsimp only
    rw [Qa0, Qa0, Qa0]
    cases same a1 b1 <;> cases same a2 b2 <;> cases same a3 b3 <;> rfl
  exact key x.1 x.2.1)⟩
theorem s_cf : C_cf (fun x => decide (List.length x.1 <= 4294967296)) (fun x => (same x.1 x.2.1, ())) := S_cf fun x hx => ⟨List.length x.1 + 1, (ev_cf _ x.1 x.2.1).trans (p_eqS fun hl => by
  have hx : List.length x.1 <= 4294967296 := of_decide_eq_true hx
  refine Qek (α := Bool) x.1 x.2.1 hl (fun k i => r_cf  (x.1, x.2.1, ()) k pt0 (h0_cf x.1 x.2.1 (i : Int))) (fun k => ?_) (fun k i y z r r' hd hd' hi hi' => ?_)
  · rw [rd0_cf, Qac (Nat.le_refl _)]; rfl
  · rw [rd0_cf, Qae hi, Qae hi', Qaf hi, Qag (by omega), Qab hd, Qab hd']
    rw [Qmh]; cases y <;> cases z <;> rfl)⟩
theorem s_ce : C_ce (fun x => decide (List.length x.1 <= 4294967296)) (fun x => (same x.1 x.2.1, ())) := S_ce s_cd fun x hx => ⟨List.length x.1 + 1, (ev_ce _ x.1 x.2.1).trans (p_eqS fun hl => by
  have hx : List.length x.1 <= 4294967296 := of_decide_eq_true hx
  refine Qek (α := MSig) x.1 x.2.1 hl (fun k i => r_ce (fun x => (same x.1 x.2.1, ())) (x.1, x.2.1, ()) k pt0 (h0_ce x.1 x.2.1 (i : Int))) (fun k => ?_) (fun k i y z r r' hd hd' hi hi' => ?_)
  · rw [rd0_ce, Qac (Nat.le_refl _)]; rfl
  · rw [rd0_ce, Qae hi, Qae hi', Qaf hi, Qag (by omega), Qab hd, Qab hd']
    show (bif (bif same y z then false else true) then _ else _) = _
    cases same y z <;> rfl)⟩
theorem s_cc : C_cc (fun x => smTs x.1) (fun x => (same x.1 x.2.1, ())) := S_cc s_cb fun x hx => ⟨List.length x.1 + 1, (ev_cc _ x.1 x.2.1).trans (p_eqS fun hl => by
  obtain ⟨h1, h2⟩ := Qgo.1 hx
  have h1 : List.length x.1 <= 4294967296 := h1
  refine Qek (α := MTst) x.1 x.2.1 hl (fun k i => r_cc (fun x => (same x.1 x.2.1, ())) (fun x => decide (List.length x.1.2.2.2.2 <= 4294967296)) (x.1, x.2.1, ()) k pt0 (h0_cc x.1 x.2.1 (i : Int))) (fun k => ?_) (fun k i y z r r' hd hd' hi hi' => ?_)
  · rw [rd0_cc, Qac (Nat.le_refl _)]; rfl
  · have h3 : decide (List.length y.2.2.2.2 <= 4294967296) = true := decide_eq_true (h2 y (Qby hd))
    rw [rd0_cc, Qae hi, Qae hi', Qaf hi, Qag (by omega), Qab hd, Qab hd', cl_eq h3]
    show (bif (bif same y z then false else true) then _ else _) = _
    cases same y z <;> rfl)⟩
theorem Qld (a b : MBat) : (same a.1 b.1 && (same a.2.1 b.2.1 && (same a.2.2.1 b.2.2.1 && (same a.2.2.2.1 b.2.2.2.1 && (same a.2.2.2.2.1 b.2.2.2.2.1 && (same a.2.2.2.2.2 b.2.2.2.2.2 && true)))))) = same a b := by
  rw [Bool.and_true, Qam, Qam, Qam, Qam, Qam]
theorem s_cg : C_cg (fun x => smB x.1) (fun x => (same x.1 x.2.1, ())) := S_cg s_cc s_ce s_cf fun x hx => ⟨0, (ev_cg 0 x.1 x.2.1).trans (by
  obtain ⟨a, b, u⟩ := x
  change MBat at a
  change MBat at b
  obtain ⟨h1, h2, h3⟩ := Qio hx
  dsimp only at h1 h2 h3 ⊢
  rw [cl_eq h1, cl_eq h2, cl_eq h3, <- Qld a b, Qa0, Qa0, Qa0]
  exact Qdr (Qdr (Qdr (Qdr (Qdr (Qdr rfl))))))⟩
theorem s_ck : C_ck (fun x => mkPre (szL (fun _ => 1)) x.1 x.2.1) (fun x => ((markL mkBool x.1 x.2.1).2, ((markL mkBool x.1 x.2.1).1, ()))) := S_ck fun x hx => ⟨List.length x.1 + 1, (ev_ck _ x.1 x.2.1).trans (by
  obtain ⟨h1, h2⟩ := Qap.1 hx
  have hl : List.length x.1 <= szL (fun _ => 1) x.1 := Qcs (fun _ => by decide) x.1
  refine Qdf (α := Bool) (mk := mkBool) (sz := fun _ => 1) Qee.go x.1 4294967296 (fun c out => some (c, (out, ()))) (fun k i c out => r_ck (x.1, x.2.1, ()) k pt1 (h0_ck x.1 x.2.1 c (i : Int) out)) (fun k c out ho => ?_) (fun k i y r c out hd hi ho h0 hB => ?_) x.2.1 h1 h2
  · rw [rd0_ck]
    try simp only [lt_eq]
    rw [Qac (show out.length <= List.length x.1 by omega)]; rfl
  · have hi' : i < out.length := by omega
    have hB : c + 1 <= 4294967296 := hB
    rw [rd0_ck]
    have hr : ∀ y : Bool, rdL (e := Sh.bool) (out.set i y) (i : Int) = y := fun y => Qgn hi'
    have h0i : decide ((0 : Int) <= (i : Int)) = true := decide_eq_true (by omega)
    have h3 : (bif (decide ((3 : Int) = (0 : Int))) then false else true) = true := rfl
    simp only [lt_eq, h3, Int.toNat_natCast, List.length_set, hr, List.set_set, h0i, Qaf hi', cond_true, Qag (show i <= 4294967296 by omega)]
    rw [Qad (x := c + 1) (by omega) (by omega)]
    rfl)⟩
theorem s_cj : C_cj (fun x => mkPre (szL (fun _ => 3)) x.1 x.2.1) (fun x => ((markL mkSig x.1 x.2.1).2, ((markL mkSig x.1 x.2.1).1, ()))) := S_cj fun x hx => ⟨List.length x.1 + 1, (ev_cj _ x.1 x.2.1).trans (by
  obtain ⟨h1, h2⟩ := Qap.1 hx
  have hl : List.length x.1 <= szL (fun _ => 3) x.1 := Qcs (fun _ => by decide) x.1
  refine Qdf (α := MSig) (mk := mkSig) (sz := fun _ => 3) Qe1.go x.1 4294967296 (fun c out => some (c, (out, ()))) (fun k i c out => r_cj (x.1, x.2.1, ()) k pt1 (h0_cj x.1 x.2.1 c (i : Int) out)) (fun k c out ho => ?_) (fun k i y r c out hd hi ho h0 hB => ?_) x.2.1 h1 h2
  · rw [rd0_cj]
    try simp only [lt_eq]
    rw [Qac (show out.length <= List.length x.1 by omega)]; rfl
  · have hi' : i < out.length := by omega
    have hB : c + 3 <= 4294967296 := hB
    rw [rd0_cj]
    have hr : ∀ y : MSig, rdL (e := S_BatSig) (out.set i y) (i : Int) = y := fun y => Qgn hi'
    have h0i : decide ((0 : Int) <= (i : Int)) = true := decide_eq_true (by omega)
    have h3 : (bif (decide ((3 : Int) = (0 : Int))) then false else true) = true := rfl
    simp only [lt_eq, h3, Int.toNat_natCast, List.length_set, hr, List.set_set, h0i, Qaf hi', cond_true, Qag (show i <= 4294967296 by omega)]
    rw [Qad (x := c + 1) (by omega) (by omega), Qad (x := c + 1 + 1) (by omega) (by omega), Qad (x := c + 1 + 1 + 1) (by omega) (by omega)]
    rfl)⟩
theorem Qjr {α β : Type} {v : α} {k : α -> β} {r : β} (h : ∀ t, t = v -> k t = r) : lt v k = r := h v rfl
theorem s_ci : C_ci (fun x => mkPre (szL szT) x.1 x.2.1) (fun x => ((markL mkTst x.1 x.2.1).2, ((markL mkTst x.1 x.2.1).1, ()))) := S_ci s_ch fun x hx => ⟨List.length x.1 + 1, (ev_ci _ x.1 x.2.1).trans (by
  obtain ⟨h1, h2⟩ := Qap.1 hx
  have hl : List.length x.1 <= szL szT x.1 := Qcs Qnd x.1
  refine Qdf (α := MTst) (mk := mkTst) (sz := szT) Qe2.go x.1 4294967296 (fun c out => some (c, (out, ()))) (fun k i c out => r_ci (fun x => ((markL mkDec x.1 x.2.1).2, ((markL mkDec x.1 x.2.1).1, ()))) (fun x => mkPre (szL (fun _ => 2)) x.1 x.2.1) (x.1, x.2.1, ()) k pt1 (h0_ci x.1 x.2.1 c (i : Int) out)) (fun k c out ho => ?_) (fun k i y r c out hd hi ho h0 hB => ?_) x.2.1 h1 h2
  · rw [rd0_ci]
    repeat with_reducible refine Qjr fun t e => ?_
    rw [Qac (show out.length <= List.length x.1 by omega)]; rfl
  · have hi' : i < out.length := by omega
    have hB : c + ((10 + szL (fun _ => 2) y.2.2.2.2 : Nat) : Int) <= 4294967296 := hB
    rw [rd0_ci]
    have hr : ∀ y : MTst, rdL (e := S_TstTest) (out.set i y) (i : Int) = y := fun y => Qgn hi'
    have h0i : decide ((0 : Int) <= (i : Int)) = true := decide_eq_true (by omega)
    have hp : mkPre (szL (fun _ => 2)) y.2.2.2.2 (c + 1 + 1 + 1 + 1 + 1 + 1 + 1 + 1 + 1 + 1) = true := Qap.2 ⟨by omega, by omega⟩
    have hy := Qab (S := S_TstTest) hd
    have e1 : w64 (c + 1) = c + 1 := Qad (by omega) (by omega)
    have e2 : w64 (c + 1 + 1) = c + 1 + 1 := Qad (by omega) (by omega)
    have e3 : w64 (c + 1 + 1 + 1) = c + 1 + 1 + 1 := Qad (by omega) (by omega)
    have e4 : w64 (c + 1 + 1 + 1 + 1) = c + 1 + 1 + 1 + 1 := Qad (by omega) (by omega)
    have e5 : w64 (c + 1 + 1 + 1 + 1 + 1) = c + 1 + 1 + 1 + 1 + 1 := Qad (by omega) (by omega)
    have e6 : w64 (c + 1 + 1 + 1 + 1 + 1 + 1) = c + 1 + 1 + 1 + 1 + 1 + 1 := Qad (by omega) (by omega)
    have e7 : w64 (c + 1 + 1 + 1 + 1 + 1 + 1 + 1) = c + 1 + 1 + 1 + 1 + 1 + 1 + 1 := Qad (by omega) (by omega)
    have e8 : w64 (c + 1 + 1 + 1 + 1 + 1 + 1 + 1 + 1) = c + 1 + 1 + 1 + 1 + 1 + 1 + 1 + 1 := Qad (by omega) (by omega)
    have e9 : w64 (c + 1 + 1 + 1 + 1 + 1 + 1 + 1 + 1 + 1) = c + 1 + 1 + 1 + 1 + 1 + 1 + 1 + 1 + 1 := Qad (by omega) (by omega)
    have e10 : w64 (c + 1 + 1 + 1 + 1 + 1 + 1 + 1 + 1 + 1 + 1) = c + 1 + 1 + 1 + 1 + 1 + 1 + 1 + 1 + 1 + 1 := Qad (by omega) (by omega)
    repeat
      with_reducible refine Qjr fun t e => ?_
      try simp only [hy, hr, e1, e2, e3, e4, e5, e6, e7, e8, e9, e10, List.set_set, Int.toNat_natCast] at e
      subst t
    simp only [List.length_set, h0i, Qaf hi', cond_true, Qag (show i <= 4294967296 by omega), e10]
    rw [cl_eq hp]
    simp only [Int.toNat_natCast, List.set_set]
    rfl)⟩
theorem s_cl : C_cl (fun x => mkPre szBI x.1 x.2.1) (fun x => ((mkBatI x.1 x.2.1).2, ((mkBatI x.1 x.2.1).1, ()))) := S_cl s_ci s_cj s_ck fun x hx => ⟨0, (ev_cl 0 x.1 x.2.1).trans (by
  obtain ⟨x, k, u⟩ := x
  change MBat at x
  change Int at k
  obtain ⟨h1, h2⟩ := Qap.1 hx
  have h1 : 0 <= k := h1
  have h2 : k + ((szL szT x.2.2.1 + szL (fun _ => 3) x.2.2.2.2.1 + szL (fun _ => 1) x.2.2.2.2.2 : Nat) : Int) <= 4294967296 := h2
  dsimp only
  have g0 := Qe2.list.go x.2.2.1 k
  have g1 := Qe1.list.go x.2.2.2.2.1 (markL mkTst x.2.2.1 k).2
  have g2 := Qee.list.go x.2.2.2.2.2 (markL mkSig x.2.2.2.2.1 (markL mkTst x.2.2.1 k).2).2
  rw [cl_eq (show mkPre (szL szT) x.2.2.1 k = true from Qap.2 ⟨by omega, by omega⟩)]
  try dsimp only
  rw [cl_eq (show mkPre (szL (fun _ => 3)) x.2.2.2.2.1 (markL mkTst x.2.2.1 k).2 = true from Qap.2 ⟨by omega, by omega⟩)]
  try dsimp only
  rw [cl_eq (show mkPre (szL (fun _ => 1)) x.2.2.2.2.2 (markL mkSig x.2.2.2.2.1 (markL mkTst x.2.2.1 k).2).2 = true from Qap.2 ⟨by omega, by omega⟩)]
  try dsimp only
  rfl)⟩
end Go.Proofs.Ytijolcgmciclhaa

set_option linter.unusedVariables false
set_option linter.unusedSimpArgs false
namespace Go.Proofs.Ytijolcgmciclhaa
open Go.Vm
theorem s_cn : C_cn (fun x => mkPre szC x.1 x.2.1) (fun x => ((mkCer x.1 x.2.1).2, ((mkCer x.1 x.2.1).1, ()))) := S_cn s_cm s_ch fun x hx => ⟨0, (ev_cn 0 x.1 x.2.1).trans (by
  obtain ⟨c, k, u⟩ := x
  change MCer at c
  change Int at k
  obtain ⟨h1, h2⟩ := Qap.1 hx
  have h1 : 0 <= k := h1
  have h2 : k + ((szL (fun _ => 6) c.2.1 + szL (fun _ => 2) c.2.2.1 : Nat) : Int) <= 4294967296 := h2
  have g0 := Qcl.list.go c.2.1 k
  dsimp only
  rw [cl_eq (show mkPre (szL (fun _ => 6)) c.2.1 k = true from Qap.2 ⟨by omega, by omega⟩)]
  dsimp only
  rw [cl_eq (show mkPre (szL (fun _ => 2)) c.2.2.1 (markL mkAsk c.2.1 k).2 = true from Qap.2 ⟨by omega, by omega⟩)]
  rfl)⟩
theorem s_cq : C_cq (fun x => mkPre szC x.1 x.2.1) (fun x => (hdOf mkCer x.1 x.2.1, ())) := S_cq s_co s_cp fun x hx => ⟨0, (ev_cq 0 x.1 x.2.1).trans (by
  obtain ⟨c, k, u⟩ := x
  change MCer at c
  change Int at k
  obtain ⟨h1, h2⟩ := Qap.1 hx
  have h1 : 0 <= k := h1
  have h2 : k + ((szL (fun _ => 6) c.2.1 + szL (fun _ => 2) c.2.2.1 : Nat) : Int) <= 4294967296 := h2
  have g0 := Qcl.list.go c.2.1 k
  have g1 := Qb9.list.go c.2.2.1 (markL mkAsk c.2.1 k).2
  have hs : hdOf mkCer c k = bif (same c.2.1 (markL mkAsk c.2.1 k).1 && same c.2.2.1 (markL mkDec c.2.2.1 (markL mkAsk c.2.1 k).2).1) then (markL mkDec c.2.2.1 (markL mkAsk c.2.1 k).2).2 else -1 := by
    unfold hdOf
    rw [<- Qm1 c]
    show (bif (same c.1 c.1 && (same c.2.1 _ && (same c.2.2.1 _ && (same c.2.2.2.1 c.2.2.2.1 && (same c.2.2.2.2 c.2.2.2.2 && true))))) then _ else _) = _
    rw [Qb6, Qb6, Qb6, Bool.true_and, Bool.true_and, Bool.and_true, Bool.and_true]; rfl
  rw [hs]
  dsimp only
  rw [cl_eq (show mkPre (szL (fun _ => 6)) c.2.1 k = true from Qap.2 ⟨by omega, by omega⟩)]
  rcases Qcl.list.hd (x := c.2.1) (k := k) (by omega) with ⟨q1, q2, q3⟩ | ⟨q1, q2, q3⟩
  · rw [q2, q3]; rfl
  · have e : hdOf (markL mkAsk) c.2.1 k = (markL mkAsk c.2.1 k).2 := by rw [q2, g0]
    rw [q3, e, decide_eq_false (show ¬ (markL mkAsk c.2.1 k).2 < 0 by omega)]
    try simp only [cond_false]
    rw [cl_eq (show mkPre (szL (fun _ => 2)) c.2.2.1 (markL mkAsk c.2.1 k).2 = true from Qap.2 ⟨by omega, by omega⟩)]
    rcases Qb9.list.hd (x := c.2.2.1) (k := (markL mkAsk c.2.1 k).2) (by omega) with ⟨q1, q2, q3⟩ | ⟨q1, q2, q3⟩
    · rw [q2, q3]; rfl
    · have e : hdOf (markL mkDec) c.2.2.1 (markL mkAsk c.2.1 k).2 = (markL mkDec c.2.2.1 (markL mkAsk c.2.1 k).2).2 := by rw [q2, g1]
      rw [q3, e, decide_eq_false (show ¬ (markL mkDec c.2.2.1 (markL mkAsk c.2.1 k).2).2 < 0 by omega)]
      rfl)⟩
theorem p_cerOf {b : MBat} (A : Option (MCer × Bool × Unit)) (hA : batOk b = true -> freed b.2.2.2.1 = true -> A = some ((cerOf b).1, (cerOf b).2, ())) :
    (bif (bif batOk b then false else true) then (some (((0 : Int), ([], ([], ((0 : Int), (0 : Int))))), (false, ()))) else (bif (bif (decide (b.2.2.2.1 = (2 : Int))) then false else true) then (bif (bif (decide (b.2.2.2.1 = (4 : Int))) then false else true) then (some (((0 : Int), ([], ([], ((0 : Int), (0 : Int))))), (false, ()))) else A) else A)) = some ((cerOf b).1, (cerOf b).2, ()) := by
  cases h1 : batOk b
  · have : cerOf b = (cer0, false) := by unfold cerOf; rw [h1]; rfl
    rw [this]; rfl
  · cases h2 : freed b.2.2.2.1
    · have : cerOf b = (cer0, false) := by unfold cerOf; rw [h1, h2]; rfl
      rw [this]
      unfold freed at h2
      obtain ⟨e1, e2⟩ := Bool.or_eq_false_iff.1 h2
      rw [e1, e2]; rfl
    · rw [hA h1 h2]
      unfold freed at h2
      revert h2
      cases decide (b.2.2.2.1 = 2) <;> cases decide (b.2.2.2.1 = 4) <;> intro h2 <;> first | rfl | cases h2
theorem Qch {α β : Type} {xs r : List α} {x : α} {i : Nat} (f : α -> β) (h : xs.drop i = x :: r) : (xs.take (i + 1)).map f = (xs.take i).map f ++ [f x] := by
  have h1 : xs[i]? = some x := by
    have := congrArg List.head? h
    rwa [List.head?_drop] at this
  rw [List.take_add_one, h1, List.map_append]; rfl
theorem s_c5 : C_c5 (fun x => smB x.1) (fun x => ((cerOf x.1).1, (cerOf x.1).2, ())) := S_c5 s_c4 s_bg s_by s_bz fun x hx => by
  obtain ⟨b, u⟩ := x
  change MBat at b
  have hx : smB b = true := hx
  obtain ⟨s1, s2, s3, s4⟩ := Qa9.1 hx
  suffices hA : ∃ k, batOk b = true -> freed b.2.2.2.1 = true -> r_c5 (fun x => (batOk x.1, ())) (fun x => smB x.1) (fun x => (tell x.1, ())) (fun x => tlPre x.1) (fun x => (batMark x.1, ())) (fun x => smB x.1) (fun x => (batSigned x.1 x.2.1 x.2.2.1, ())) (fun x => smB x.1) (b, ()) k pt2 (h0_c5 b (List.length b.2.2.1 : Int) (0 : Int) (0 : Int) ((0 : Int), (0 : Int)) [] [] ((0 : Int), (0 : Int)) [] []) = some ((cerOf b).1, (cerOf b).2, ()) by
    obtain ⟨k, hk⟩ := hA
    refine ⟨k, (ev_c5 k b).trans ?_⟩
    dsimp only
    rw [cl_eq hx]
    exact p_cerOf _ hk
  by_cases hc : batOk b = true /\ freed b.2.2.2.1 = true
  · obtain ⟨hk, hf⟩ := hc
    obtain ⟨g1, g2, g3, g4⟩ := Qeg hk hf
    have hcer : cerOf b = ((b.1, b.2.2.1.map (·.1), b.2.2.1.map tell, leastHand b, batSigned b 3 (leastHand b)), true) := by unfold cerOf; rw [hk, hf]; rfl
    have := (Qfn (σ := List MAsk × List MDec) b.2.2.1.length (fun k i s => r_c5 (fun x => (batOk x.1, ())) (fun x => smB x.1) (fun x => (tell x.1, ())) (fun x => tlPre x.1) (fun x => (batMark x.1, ())) (fun x => smB x.1) (fun x => (batSigned x.1 x.2.1 x.2.2.1, ())) (fun x => smB x.1) (b, ()) k pt2 (h0_c5 b (List.length b.2.2.1 : Int) (i : Int) (0 : Int) ((0 : Int), (0 : Int)) [] [] ((0 : Int), (0 : Int)) s.1 s.2)) (fun v => v = ((cerOf b).1, (cerOf b).2, ())) (fun i s => s.1 = (b.2.2.1.take i).map (·.1) /\ s.2 = (b.2.2.1.take i).map tell) (fun s hs => ?_) (fun i s hi hs next => ?_) b.2.2.1.length 0 ([], []) (by omega) ⟨rfl, rfl⟩).eq
    · obtain ⟨k, hk'⟩ := this
      exact ⟨k, fun _ _ => hk'⟩
    · obtain ⟨e1, e2⟩ := hs
      rw [List.take_length] at e1 e2
      obtain ⟨q1, q2⟩ := s
      have e1 : q1 = b.2.2.1.map (·.1) := e1
      have e2 : q2 = b.2.2.1.map tell := e2
      subst e1; subst e2
      have hs4 : b.2.2.2.2.1.length <= 4294967296 := s3
      have hl2 := Qbv (σ := Int) b.2.2.2.2.1 (fun _ => leastStep b) (fun _ => True) (fun k i s => r_c5 (fun x => (batOk x.1, ())) (fun x => smB x.1) (fun x => (tell x.1, ())) (fun x => tlPre x.1) (fun x => (batMark x.1, ())) (fun x => smB x.1) (fun x => (batSigned x.1 x.2.1 x.2.2.1, ())) (fun x => smB x.1) (b, ()) k pt3 (h1_c5 b (batMark b) (List.length b.2.2.2.2.1 : Int) (i : Int) (0 : Int) ((0 : Int), (0 : Int)) [] [] (s, (0 : Int)) (b.2.2.1.map (·.1)) (b.2.2.1.map tell))) (fun v => v = ((cerOf b).1, (cerOf b).2, ())) (fun _ _ _ _ => trivial) 0 trivial (fun _ => ⟨1, ?_⟩) (fun i y r s hd hi _ hn => ?_)
      · obtain ⟨k, hk2⟩ := hl2
        refine ⟨k + 1, ?_⟩
        show Gets (r_c5 (fun x => (batOk x.1, ())) (fun x => smB x.1) (fun x => (tell x.1, ())) (fun x => tlPre x.1) (fun x => (batMark x.1, ())) (fun x => smB x.1) (fun x => (batSigned x.1 x.2.1 x.2.2.1, ())) (fun x => smB x.1) (b, ()) (k + 1) pt2 (h0_c5 b (List.length b.2.2.1 : Int) (List.length b.2.2.1 : Int) (0 : Int) ((0 : Int), (0 : Int)) [] [] ((0 : Int), (0 : Int)) _ _)) _
        rw [rd0_c5, Qac (Nat.le_refl _), cond_false, cl_eq hx]
        exact hk2
      · show Gets (r_c5 (fun x => (batOk x.1, ())) (fun x => smB x.1) (fun x => (tell x.1, ())) (fun x => tlPre x.1) (fun x => (batMark x.1, ())) (fun x => smB x.1) (fun x => (batSigned x.1 x.2.1 x.2.2.1, ())) (fun x => smB x.1) (b, ()) (0 + 1) pt3 _) _
        rw [rd1_c5, Qac (Nat.le_refl _), cond_false, cl_eq hx, hcer]
        refine Qic ?_
        rw [Qgl]; rfl
      · obtain ⟨k, hk2⟩ := hn
        refine ⟨k + 1, ?_⟩
        show Gets (r_c5 (fun x => (batOk x.1, ())) (fun x => smB x.1) (fun x => (tell x.1, ())) (fun x => tlPre x.1) (fun x => (batMark x.1, ())) (fun x => smB x.1) (fun x => (batSigned x.1 x.2.1 x.2.2.1, ())) (fun x => smB x.1) (b, ()) (k + 1) pt3 _) _
        rw [rd1_c5, Qae hi, Qaf hi, Qag (by omega), Qab hd, cond_true, cond_true]
        dsimp only
        rw [cl_eq hx]
        have hk2 : Gets (r_c5 (fun x => (batOk x.1, ())) (fun x => smB x.1) (fun x => (tell x.1, ())) (fun x => tlPre x.1) (fun x => (batMark x.1, ())) (fun x => smB x.1) (fun x => (batSigned x.1 x.2.1 x.2.2.1, ())) (fun x => smB x.1) (b, ()) k pt3 (h1_c5 b (batMark b) (List.length b.2.2.2.2.1 : Int) ((i + 1 : Nat) : Int) (0 : Int) ((0 : Int), (0 : Int)) [] [] (leastStep b s y, (0 : Int)) (b.2.2.1.map (·.1)) (b.2.2.1.map tell))) (fun v => v = ((cerOf b).1, (cerOf b).2, ())) := hk2
        unfold leastStep hand1 at hk2
        cases c1 : decide (y.2.1 = 2)
        · rw [c1] at hk2; exact hk2
        · cases c2 : decide (y.2.2 = batMark b)
          · rw [c1, c2] at hk2; exact hk2
          · cases c3 : decide (0 < batSigned b 3 y.1)
            · rw [c1, c2, c3] at hk2
              try dsimp only
              exact hk2
            · rw [c1, c2, c3] at hk2
              try dsimp only
              try rw [c3]
              by_cases c4 : s = 0
              · rw [decide_eq_true c4]
                simp only [Bool.and_self, cond_true, if_pos c4] at hk2
                exact hk2
              · rw [decide_eq_false c4]
                by_cases c5 : y.1 < s
                · rw [decide_eq_true c5]
                  simp only [Bool.and_self, cond_true, if_neg c4, if_pos c5] at hk2
                  exact hk2
                · rw [decide_eq_false c5]
                  simp only [Bool.and_self, cond_true, if_neg c4, if_neg c5] at hk2
                  exact hk2
    · obtain ⟨q1, q2⟩ := s
      obtain ⟨e1, e2⟩ := hs
      have e1 : q1 = (b.2.2.1.take i).map (·.1) := e1
      have e2 : q2 = (b.2.2.1.take i).map tell := e2
      have hd := List.drop_eq_getElem_cons hi
      have hm := g3 _ (Qby hd)
      have ht : tlPre b.2.2.1[i] = true := Qhf hm.1 (.inl hm.2)
      have hl : (b.2.2.1.take i).length <= 4 := Nat.le_trans (List.length_take_le _ _) (by omega)
      obtain ⟨k, hk2⟩ := next ((b.2.2.1.take (i + 1)).map (·.1), (b.2.2.1.take (i + 1)).map tell) ⟨rfl, rfl⟩
      rw [Qch _ hd, Qch _ hd] at hk2
      refine ⟨k + 1, ?_⟩
      show Gets (r_c5 (fun x => (batOk x.1, ())) (fun x => smB x.1) (fun x => (tell x.1, ())) (fun x => tlPre x.1) (fun x => (batMark x.1, ())) (fun x => smB x.1) (fun x => (batSigned x.1 x.2.1 x.2.2.1, ())) (fun x => smB x.1) (b, ()) (k + 1) pt2 (h0_c5 b (List.length b.2.2.1 : Int) (i : Int) (0 : Int) ((0 : Int), (0 : Int)) [] [] ((0 : Int), (0 : Int)) q1 q2)) _
      rw [rd0_c5, Qae hi, Qaf hi, Qag (by omega), Qab hd, cond_true, cond_true, Qej (by rw [e1, List.length_map]; show (b.2.2.1.take i).length + 1 <= _; omega), cond_true, cl_eq ht, Qej (by rw [e2, List.length_map]; show (b.2.2.1.take i).length + 1 <= _; omega), e1, e2]
      exact hk2
  · exact ⟨0, fun h1 h2 => absurd ⟨h1, h2⟩ hc⟩
theorem p_sCer {b : MBat} (hx : smB b = true) (q1 : List MAsk) (q2 : List MDec) (P : MCer × Bool × Unit -> Prop) (u : Int) (hu : 1 <= u /\ u <= 5) (p : MDec) (hn : WithFuel (fun k => r_az (fun x => (batOk x.1, ())) (fun x => smB x.1) (fun x => (tell x.1, ())) (fun x => tlPre x.1) (fun x => (batSigned x.1 x.2.1 x.2.2.1, ())) (fun x => smB x.1) (fun x => (batMark x.1, ())) (fun x => smB x.1) (b, ()) k pt7 (h1_az b (u - 1) (0 : Int) ((0 : Int), (0 : Int)) [] [] (downStep b u p) q1 q2)) P) :
    WithFuel (fun k => r_az (fun x => (batOk x.1, ())) (fun x => smB x.1) (fun x => (tell x.1, ())) (fun x => tlPre x.1) (fun x => (batSigned x.1 x.2.1 x.2.2.1, ())) (fun x => smB x.1) (fun x => (batMark x.1, ())) (fun x => smB x.1) (b, ()) k pt7 (h1_az b u (0 : Int) ((0 : Int), (0 : Int)) [] [] p q1 q2)) P := by
  obtain ⟨s1, s2, s3, s4⟩ := Qa9.1 hx
  have hl2 := Qbv (σ := MDec) b.2.2.2.2.1 (fun _ s y => bif decide (y.1 = u) && hand1 b y then (u, batSigned b 3 u) else s) (fun _ => True) (fun k i s => r_az (fun x => (batOk x.1, ())) (fun x => smB x.1) (fun x => (tell x.1, ())) (fun x => tlPre x.1) (fun x => (batSigned x.1 x.2.1 x.2.2.1, ())) (fun x => smB x.1) (fun x => (batMark x.1, ())) (fun x => smB x.1) (b, ()) k pt4 (h2_az b u (i : Int) (0 : Int) ((0 : Int), (0 : Int)) [] [] s q1 q2)) P (fun _ _ _ _ => trivial) p trivial (fun _ => ?_) (fun i y r s hd hi _ hn => ?_)
  · obtain ⟨k, hk⟩ := hl2
    refine ⟨k + 1, ?_⟩
    show Gets (r_az (fun x => (batOk x.1, ())) (fun x => smB x.1) (fun x => (tell x.1, ())) (fun x => tlPre x.1) (fun x => (batSigned x.1 x.2.1 x.2.2.1, ())) (fun x => smB x.1) (fun x => (batMark x.1, ())) (fun x => smB x.1) (b, ()) (k + 1) pt7 _) _
    rw [rd1_az, decide_eq_true hu.1, cond_true]
    exact hk
  · obtain ⟨k, hk⟩ := hn
    refine ⟨k + 1, ?_⟩
    show Gets (r_az (fun x => (batOk x.1, ())) (fun x => smB x.1) (fun x => (tell x.1, ())) (fun x => tlPre x.1) (fun x => (batSigned x.1 x.2.1 x.2.2.1, ())) (fun x => smB x.1) (fun x => (batMark x.1, ())) (fun x => smB x.1) (b, ()) (k + 1) pt4 _) _
    rw [rd2_az, Qac (Nat.le_refl _), cond_false, Qgl, Qjp, Qad (by omega) (by omega)]
    exact hk
  · obtain ⟨k, hk⟩ := hn
    refine ⟨k + 1, ?_⟩
    show Gets (r_az (fun x => (batOk x.1, ())) (fun x => smB x.1) (fun x => (tell x.1, ())) (fun x => tlPre x.1) (fun x => (batSigned x.1 x.2.1 x.2.2.1, ())) (fun x => smB x.1) (fun x => (batMark x.1, ())) (fun x => smB x.1) (b, ()) (k + 1) pt4 _) _
    rw [rd2_az, Qae hi, Qaf hi, Qag (by omega), Qab hd, cond_true, cond_true, cl_eq hx, cl_eq hx]
    dsimp only
    have hk : Gets (r_az (fun x => (batOk x.1, ())) (fun x => smB x.1) (fun x => (tell x.1, ())) (fun x => tlPre x.1) (fun x => (batSigned x.1 x.2.1 x.2.2.1, ())) (fun x => smB x.1) (fun x => (batMark x.1, ())) (fun x => smB x.1) (b, ()) k pt4 (h2_az b u ((i + 1 : Nat) : Int) (0 : Int) ((0 : Int), (0 : Int)) [] [] (bif decide (y.1 = u) && hand1 b y then (u, batSigned b 3 u) else s) q1 q2)) P := hk
    unfold hand1 at hk
    by_cases c1 : y.1 = u
    · rw [c1] at hk ⊢
      rw [decide_eq_true rfl] at hk ⊢
      cases c2 : decide (y.2.1 = 2)
      · rw [c2] at hk; exact hk
      · cases c3 : decide (y.2.2 = batMark b)
        · rw [c2, c3] at hk; exact hk
        · cases c4 : decide (0 < batSigned b 3 u)
          · rw [c2, c3, c4] at hk; exact hk
          · rw [c2, c3, c4] at hk; exact hk
    · rw [decide_eq_false c1] at hk ⊢
      exact hk
theorem s_az : C_az (fun x => smB x.1) (fun x => ((cerOf x.1).1, (cerOf x.1).2, ())) := S_az s_ay s_ap s_av s_au fun x hx => by
  obtain ⟨b, u⟩ := x
  change MBat at b
  have hx : smB b = true := hx
  obtain ⟨s1, s2, s3, s4⟩ := Qa9.1 hx
  suffices hA : ∃ k, batOk b = true -> freed b.2.2.2.1 = true -> r_az (fun x => (batOk x.1, ())) (fun x => smB x.1) (fun x => (tell x.1, ())) (fun x => tlPre x.1) (fun x => (batSigned x.1 x.2.1 x.2.2.1, ())) (fun x => smB x.1) (fun x => (batMark x.1, ())) (fun x => smB x.1) (b, ()) k pt2 (h0_az b (0 : Int) (0 : Int) ((0 : Int), (0 : Int)) [] [] ((0 : Int), (0 : Int)) [] []) = some ((cerOf b).1, (cerOf b).2, ()) by
    obtain ⟨k, hk⟩ := hA
    refine ⟨k, (ev_az k b).trans ?_⟩
    dsimp only
    rw [cl_eq hx]
    exact p_cerOf _ hk
  by_cases hc : batOk b = true /\ freed b.2.2.2.1 = true
  · obtain ⟨hk, hf⟩ := hc
    obtain ⟨g1, g2, g3, g4⟩ := Qeg hk hf
    have hcer : cerOf b = ((b.1, b.2.2.1.map (·.1), b.2.2.1.map tell, leastHand b, batSigned b 3 (leastHand b)), true) := by unfold cerOf; rw [hk, hf]; rfl
    have := (Qfn (σ := List MAsk × List MDec) b.2.2.1.length (fun k i s => r_az (fun x => (batOk x.1, ())) (fun x => smB x.1) (fun x => (tell x.1, ())) (fun x => tlPre x.1) (fun x => (batSigned x.1 x.2.1 x.2.2.1, ())) (fun x => smB x.1) (fun x => (batMark x.1, ())) (fun x => smB x.1) (b, ()) k pt2 (h0_az b (i : Int) (0 : Int) ((0 : Int), (0 : Int)) [] [] ((0 : Int), (0 : Int)) s.1 s.2)) (fun v => v = ((cerOf b).1, (cerOf b).2, ())) (fun i s => s.1 = (b.2.2.1.take i).map (·.1) /\ s.2 = (b.2.2.1.take i).map tell) (fun s hs => ?_) (fun i s hi hs next => ?_) b.2.2.1.length 0 ([], []) (by omega) ⟨rfl, rfl⟩).eq
    · obtain ⟨k, hk'⟩ := this
      exact ⟨k, fun _ _ => hk'⟩
    · obtain ⟨e1, e2⟩ := hs
      rw [List.take_length] at e1 e2
      obtain ⟨q1, q2⟩ := s
      have e1 : q1 = b.2.2.1.map (·.1) := e1
      have e2 : q2 = b.2.2.1.map tell := e2
      subst e1; subst e2
      have hz : WithFuel (fun k => r_az (fun x => (batOk x.1, ())) (fun x => smB x.1) (fun x => (tell x.1, ())) (fun x => tlPre x.1) (fun x => (batSigned x.1 x.2.1 x.2.2.1, ())) (fun x => smB x.1) (fun x => (batMark x.1, ())) (fun x => smB x.1) (b, ()) k pt7 (h1_az b (0 : Int) (0 : Int) ((0 : Int), (0 : Int)) [] [] (downStep b 1 (downStep b 2 (downStep b 3 (downStep b 4 (downStep b 5 (0, 0)))))) (b.2.2.1.map (·.1)) (b.2.2.1.map tell))) (fun v => v = ((cerOf b).1, (cerOf b).2, ())) := by
        refine ⟨1, ?_⟩
        show Gets (r_az (fun x => (batOk x.1, ())) (fun x => smB x.1) (fun x => (tell x.1, ())) (fun x => tlPre x.1) (fun x => (batSigned x.1 x.2.1 x.2.2.1, ())) (fun x => smB x.1) (fun x => (batMark x.1, ())) (fun x => smB x.1) (b, ()) (0 + 1) pt7 _) _
        rw [rd1_az, Qm0 g1 g2, hcer]
        exact Qic rfl
      have h5 := p_sCer hx _ _ _ 5 (by decide) (0, 0) (p_sCer hx _ _ _ 4 (by decide) _ (p_sCer hx _ _ _ 3 (by decide) _ (p_sCer hx _ _ _ 2 (by decide) _ (p_sCer hx _ _ _ 1 (by decide) _ hz))))
      obtain ⟨k, hk2⟩ := h5
      refine ⟨k + 1, ?_⟩
      show Gets (r_az (fun x => (batOk x.1, ())) (fun x => smB x.1) (fun x => (tell x.1, ())) (fun x => tlPre x.1) (fun x => (batSigned x.1 x.2.1 x.2.2.1, ())) (fun x => smB x.1) (fun x => (batMark x.1, ())) (fun x => smB x.1) (b, ()) (k + 1) pt2 (h0_az b (List.length b.2.2.1 : Int) (0 : Int) ((0 : Int), (0 : Int)) [] [] ((0 : Int), (0 : Int)) _ _)) _
      rw [rd0_az, Qac (Nat.le_refl _), cond_false]
      exact hk2
    · obtain ⟨q1, q2⟩ := s
      obtain ⟨e1, e2⟩ := hs
      have e1 : q1 = (b.2.2.1.take i).map (·.1) := e1
      have e2 : q2 = (b.2.2.1.take i).map tell := e2
      have hd := List.drop_eq_getElem_cons hi
      have hm := g3 _ (Qby hd)
      have ht : tlPre b.2.2.1[i] = true := Qhf hm.1 (.inl hm.2)
      have hl : (b.2.2.1.take i).length <= 4 := Nat.le_trans (List.length_take_le _ _) (by omega)
      obtain ⟨k, hk2⟩ := next ((b.2.2.1.take (i + 1)).map (·.1), (b.2.2.1.take (i + 1)).map tell) ⟨rfl, rfl⟩
      rw [Qch _ hd, Qch _ hd] at hk2
      refine ⟨k + 1, ?_⟩
      show Gets (r_az (fun x => (batOk x.1, ())) (fun x => smB x.1) (fun x => (tell x.1, ())) (fun x => tlPre x.1) (fun x => (batSigned x.1 x.2.1 x.2.2.1, ())) (fun x => smB x.1) (fun x => (batMark x.1, ())) (fun x => smB x.1) (b, ()) (k + 1) pt2 (h0_az b (i : Int) (0 : Int) ((0 : Int), (0 : Int)) [] [] ((0 : Int), (0 : Int)) q1 q2)) _
      rw [rd0_az, Qae hi, Qaf hi, Qag (by omega), Qab hd, cond_true, cond_true, Qej (by rw [e1, List.length_map]; show (b.2.2.1.take i).length + 1 <= _; omega), cond_true, cond_true, cl_eq ht, Qej (by rw [e2, List.length_map]; show (b.2.2.1.take i).length + 1 <= _; omega), e1, e2]
      exact hk2
  · exact ⟨0, fun h1 h2 => absurd ⟨h1, h2⟩ hc⟩

end Go.Proofs.Ytijolcgmciclhaa

set_option linter.unusedVariables false
set_option linter.unusedSimpArgs false
namespace Go.Proofs.Ytijolcgmciclhaa
open Go.Vm
theorem s_lFnExactCerOf : C_lFnExactCerOf (lawPre _) (fun _ => (true, ())) := S_lFnExactCerOf s_a5 s_ae s_az s_c5 s_ca s_cg s_cl s_cn s_cq fun x hx => ⟨0, (ev_lFnExactCerOf 0 x.1).trans (by
  have hw := (Qg9.1 hx).1
  obtain ⟨b, u⟩ := x
  change MBat at b
  have h1 : wfBat b = true := Bool.and_eq_true_iff.2 ⟨Bool.and_eq_true_iff.2 ⟨Qbu.2 hw.2.2.1.1, List.all_eq_true.2 fun t ht => Qbu.2 (hw.2.2.1.2 t ht).2.2.2.2.1⟩, Bool.and_eq_true_iff.2 ⟨Qbu.2 hw.2.2.2.2.1.1, Qbu.2 hw.2.2.2.2.2.1⟩⟩
  have h2 : inq (1048576 : Int) 0 1048576 = true := rfl
  simp only [h1, h2, Bool.and_self, cond_true, cl]
  by_cases h : siBat b 1048576 < 0
  · simp only [decide_eq_true h, cond_true]
  · have h3 : smB b = true := Qf7 (Int.le_refl _) (Int.not_lt.1 h)
    obtain ⟨_, hm⟩ := Qlc (Int.not_lt.1 h)
    have hr := Qj2 b
    generalize cerOf b = R at hr
    obtain ⟨C, ok⟩ := R
    obtain ⟨hr1, hr2, hr3⟩ := hr
    have hr1 : decide (List.length C.2.1 <= 4294967296) = true := decide_eq_true (Nat.le_trans hr1 (by decide))
    have hr2 : decide (List.length C.2.2.1 <= 4294967296) = true := decide_eq_true (Nat.le_trans hr2 (by decide))
    have hr3 : mkPre szC C 1 = true := hr3
    have p1 : decide ((mkBatI b 1).2 < 0) = false := Qmf.pos (by decide)
    have p2 : decide ((mkCer C 1).2 < 0) = false := Qgm.pos (by decide)
    have p3 : mkPre szC (C.1, (mkCer C 1).1.2.1, (mkCer C 1).1.2.2.1, C.2.2.2) 1 = true := Qgm.pre hr3
    have p4 : hdOf mkCer (C.1, (mkCer C 1).1.2.1, (mkCer C 1).1.2.2.1, C.2.2.2) 1 = (mkCer C 1).2 := Qgm.held C 1
    simp only [decide_eq_false h, h3, hm, hr1, hr2, hr3, p1, p2, p3, p4, Qb6, beq_self_eq_true, Bool.and_self, cond_true, cond_false, decide_eq_true_eq, decide_true])⟩

end Go.Proofs.Ytijolcgmciclhaa
