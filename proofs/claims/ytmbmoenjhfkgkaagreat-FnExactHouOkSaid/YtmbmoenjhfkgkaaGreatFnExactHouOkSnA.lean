/- The functions that FnExactHouOk reaches: what each of them answers, part 1. Conditions stand in each contract. -/
import Derived.Test.YtmbmoenjhfkgkaaGreatFnExactHouOkEq0
import Derived.Test.YtmbmoenjhfkgkaaGreatFnExactHouOkMoA
set_option linter.unusedVariables false
set_option linter.unusedSimpArgs false
namespace Go.Proofs.YtmbmoenjhfkgkaaGreat
open Go.Vm

theorem s_iin : C_iin (fun _ => true) (fun x => (inq x.1 x.2.1 x.2.2.1, ())) := S_iin fun x _ => ⟨0, (ev_iin 0 x.1 x.2.1 x.2.2.1).trans (by
  simp only [Qbu, Qbv, Qb3]; rfl)⟩
theorem s_ar : C_ar (fun _ => true) (fun x => (inq x.1 x.2.1 x.2.2.1, ())) := S_ar fun x _ => ⟨0, (ev_ar 0 x.1 x.2.1 x.2.2.1).trans (by
  simp only [Qbu, Qbv, Qb3]; rfl)⟩

/-- Ten, so many times. -/
theorem Qj5 {i : Nat} (h : i < 18) : w64 ((10 : Int) ^ i * (10 : Int)) = 10 ^ (i + 1) := by
  have : (10 : Int) ^ (i + 1) <= 10 ^ 18 := by exact_mod_cast Nat.pow_le_pow_right (by decide) (by omega)
  have h2 : (0 : Int) < 10 ^ (i + 1) := Int.pow_pos (by decide)
  rw [<- Int.pow_succ, Qal (by omega) (by omega)]

theorem p_bl (n : Int) (hn : n <= 18) : r_bl (n, ()) (n.toNat + 1) pt0 (h0_bl n (1 : Int) (0 : Int)) = some (pw n, ()) := by
  by_cases h0 : n <= 0
  · have : n.toNat = 0 := by omega
    rw [this, rd0_bl]
    have : decide ((0 : Int) < n) = false := decide_eq_false (by omega)
    rw [this]
    show some ((1 : Int), ()) = _
    unfold pw
    rw [show n.toNat = 0 by omega]; rfl
  · have hc : (n.toNat : Int) = n := by omega
    refine Qet (σ := Unit) n.toNat (fun k i _ => r_bl (n, ()) k pt0 (h0_bl n ((10 : Int) ^ i) (i : Int))) (fun _ _ => (pw n, ())) (fun _ _ => True) (fun k s _ => ?_) (fun k i s hi _ => ?_) n.toNat 0 () (by omega) trivial
    · rw [rd0_bl, show decide ((n.toNat : Int) < n) = false from decide_eq_false (by omega)]
      rfl
    · refine .inr ⟨(), trivial, ?_, rfl⟩
      rw [rd0_bl, show decide ((i : Int) < n) = true from decide_eq_true (by omega), Qj5 (by omega), Qaf (by omega)]
      rfl
theorem s_bl : C_bl (fun x => decide (x.1 <= 18)) (fun x => (pw x.1, ())) := S_bl fun x hx => ⟨_, (ev_bl _ x.1).trans (p_bl x.1 (of_decide_eq_true hx))⟩
theorem p_as (n : Int) (hn : n <= 18) : r_as (n, ()) (n.toNat + 1) pt0 (h0_as n (1 : Int) (0 : Int)) = some (pw n, ()) := by
  by_cases h0 : n <= 0
  · have : n.toNat = 0 := by omega
    rw [this, rd0_as]
    have : decide ((0 : Int) < n) = false := decide_eq_false (by omega)
    rw [this]
    show some ((1 : Int), ()) = _
    unfold pw
    rw [show n.toNat = 0 by omega]; rfl
  · have hc : (n.toNat : Int) = n := by omega
    refine Qet (σ := Unit) n.toNat (fun k i _ => r_as (n, ()) k pt0 (h0_as n ((10 : Int) ^ i) (i : Int))) (fun _ _ => (pw n, ())) (fun _ _ => True) (fun k s _ => ?_) (fun k i s hi _ => ?_) n.toNat 0 () (by omega) trivial
    · rw [rd0_as, show decide ((n.toNat : Int) < n) = false from decide_eq_false (by omega)]
      rfl
    · refine .inr ⟨(), trivial, ?_, rfl⟩
      rw [rd0_as, show decide ((i : Int) < n) = true from decide_eq_true (by omega), Qj5 (by omega), Qaf (by omega)]
      rfl
theorem s_as : C_as (fun x => decide (x.1 <= 18)) (fun x => (pw x.1, ())) := S_as fun x hx => ⟨_, (ev_as _ x.1).trans (p_as x.1 (of_decide_eq_true hx))⟩
theorem Qdj {n d : Int} (h : nrPre n d = true) (h0 : 0 <= n) : w64 (Int.tdiv (w64 (w64 ((2 : Int) * n) + d)) (w64 ((2 : Int) * d))) = near n d /\ decide (w64 ((2 : Int) * d) = (0 : Int)) = false /\ 0 <= near n d /\ near n d <= 2000000000000000 := by
  obtain ⟨⟨h1, h2⟩, h3, h4⟩ := Qbw.1 h
  have e1 : w64 ((2 : Int) * d) = 2 * d := Qal (by omega) (by omega)
  have e2 : w64 ((2 : Int) * n) = 2 * n := Qal (by omega) (by omega)
  have e3 : w64 (2 * n + d) = 2 * n + d := Qal (by omega) (by omega)
  have e4 : Int.tdiv (2 * n + d) (2 * d) = (2 * n + d) / (2 * d) := Int.tdiv_eq_ediv_of_nonneg (by omega)
  have a1 : 0 <= (2 * n + d) / (2 * d) := Int.ediv_nonneg (by omega) (by omega)
  have a2 : (2 * n + d) / (2 * d) <= n + d := by
    refine Int.ediv_le_of_le_mul (by omega) ?_
    have : n + d <= (n + d) * d := by
      have := Int.mul_le_mul_of_nonneg_left (show (1 : Int) <= d by omega) (show 0 <= n + d by omega)
      omega
    have e : (n + d) * (2 * d) = 2 * ((n + d) * d) := by rw [Int.mul_left_comm]
    omega
  have e5 : near n d = (2 * n + d) / (2 * d) := by unfold near; rw [if_neg (by omega)]
  rw [e1, e2, e3, e4, e5]
  exact ⟨Qal (by omega) (by omega), decide_eq_false (by omega), a1, by omega⟩

theorem Qjg {n d : Int} (h : n < 0) : near n d = -(near (-n) d) := by
  unfold near; rw [if_pos h, if_neg (by omega)]
theorem p_inearest_up {n d : Int} {g p} (h : nrPre n d = true) (h0 : 0 <= n) : E_bn g p 0 (n, d, ()) = some (near n d, ()) := (ev_bn 0 n d).trans (by
  obtain ⟨h1, h2, _⟩ := Qdj h h0
  rw [show decide (n < (0 : Int)) = false from decide_eq_false (by omega), h2, h1]
  rfl)
theorem s_inearest_up : C_bn (fun x => nrPre x.1 x.2.1 && decide (0 <= x.1)) (fun x => (near x.1 x.2.1, ())) := S_bn (S0_bn (fn := fun _ => (0, ()))) fun x hx => ⟨0, p_inearest_up (Bool.and_eq_true_iff.1 hx).1 (of_decide_eq_true (Bool.and_eq_true_iff.1 hx).2)⟩
theorem p_bn {n d : Int} (hx : nrPre n d = true) : E_bn (fun x => (near x.1 x.2.1, ())) (fun x => nrPre x.1 x.2.1 && decide (0 <= x.1)) 0 (n, d, ()) = some (near n d, ()) := by
  obtain ⟨⟨h1, h2⟩, h3, h4⟩ := Qbw.1 hx
  by_cases h0 : n < 0
  · refine (ev_bn 0 n d).trans ?_
    have e : w64 ((0 : Int) - n) = -n := by rw [Qal (by omega) (by omega)]; omega
    have hp : nrPre (-n) d = true := Qbw.2 ⟨⟨by omega, by omega⟩, h3, h4⟩
    obtain ⟨_, _, g1, g2⟩ := Qdj hp (by omega)
    rw [show decide (n < (0 : Int)) = true from decide_eq_true h0, e]
    simp only [cond_true, hp, show decide (0 <= -n) = true from decide_eq_true (by omega), Bool.and_self]
    rw [Qjg h0, show w64 ((0 : Int) - near (-n) d) = -near (-n) d from by rw [Qal (by omega) (by omega)]; omega]
  · exact p_inearest_up hx (by omega)
theorem s_bn : C_bn (fun x => nrPre x.1 x.2.1) (fun x => (near x.1 x.2.1, ())) := S_bn s_inearest_up fun x hx => ⟨0, p_bn hx⟩
theorem p_sl1Near_up {n d : Int} {g p} (h : nrPre n d = true) (h0 : 0 <= n) : E_au g p 0 (n, d, ()) = some (near n d, ()) := (ev_au 0 n d).trans (by
  obtain ⟨h1, h2, _⟩ := Qdj h h0
  rw [show decide (n < (0 : Int)) = false from decide_eq_false (by omega), h2, h1]
  rfl)
theorem s_sl1Near_up : C_au (fun x => nrPre x.1 x.2.1 && decide (0 <= x.1)) (fun x => (near x.1 x.2.1, ())) := S_au (S0_au (fn := fun _ => (0, ()))) fun x hx => ⟨0, p_sl1Near_up (Bool.and_eq_true_iff.1 hx).1 (of_decide_eq_true (Bool.and_eq_true_iff.1 hx).2)⟩
theorem p_au {n d : Int} (hx : nrPre n d = true) : E_au (fun x => (near x.1 x.2.1, ())) (fun x => nrPre x.1 x.2.1 && decide (0 <= x.1)) 0 (n, d, ()) = some (near n d, ()) := by
  obtain ⟨⟨h1, h2⟩, h3, h4⟩ := Qbw.1 hx
  by_cases h0 : n < 0
  · refine (ev_au 0 n d).trans ?_
    have e : w64 ((0 : Int) - n) = -n := by rw [Qal (by omega) (by omega)]; omega
    have hp : nrPre (-n) d = true := Qbw.2 ⟨⟨by omega, by omega⟩, h3, h4⟩
    obtain ⟨_, _, g1, g2⟩ := Qdj hp (by omega)
    rw [show decide (n < (0 : Int)) = true from decide_eq_true h0, e]
    simp only [cond_true, hp, show decide (0 <= -n) = true from decide_eq_true (by omega), Bool.and_self]
    rw [Qjg h0, show w64 ((0 : Int) - near (-n) d) = -near (-n) d from by rw [Qal (by omega) (by omega)]; omega]
  · exact p_sl1Near_up hx (by omega)
theorem s_au : C_au (fun x => nrPre x.1 x.2.1) (fun x => (near x.1 x.2.1, ())) := S_au s_sl1Near_up fun x hx => ⟨0, p_au hx⟩

end Go.Proofs.YtmbmoenjhfkgkaaGreat

set_option linter.unusedVariables false
set_option linter.unusedSimpArgs false
namespace Go.Proofs.YtmbmoenjhfkgkaaGreat
open Go.Vm

theorem s_bm : C_bm (fun _ => true) (fun x => (decOk x.1, ())) := S_bm s_iin s_bl fun x _ => ⟨0, (ev_bm 0 x.1).trans (p_decOk x.1)⟩
theorem s_at : C_at (fun _ => true) (fun x => (decOk x.1, ())) := S_at s_ar s_as fun x _ => ⟨0, (ev_at 0 x.1).trans (p_decOk x.1)⟩
theorem s_bo : C_bo (fun _ => true) (fun x => (decAt x.1 x.2.1, ())) := S_bo s_bm s_iin s_bl s_bn fun x _ => ⟨0, (ev_bo 0 x.1 x.2.1).trans (p_decAt x.1 x.2.1 _ fun h1 h2 => p_atR h1 h2)⟩
theorem s_av : C_av (fun x => decOk x.1 && inq x.2.1 0 3) (fun x => (atR x.1 x.2.1, ())) := S_av s_as s_au fun x hx => ⟨0, (ev_av 0 x.1 x.2.1).trans (p_atR (Bool.and_eq_true_iff.1 hx).1 (Bool.and_eq_true_iff.1 hx).2)⟩
theorem s_bp : C_bp (fun _ => true) (fun _ => (false, ())) := S_bp fun x _ => ⟨0, (ev_bp 0 x.1).trans (by
  rw [decide_eq_true rfl]; rfl)⟩
theorem s_bq : C_bq (fun _ => true) (fun x => (cmpI x.1 x.2.1, ())) := S_bq s_bp fun x _ => ⟨0, (ev_bq 0 x.1 x.2.1).trans (p_cmpI x.1 x.2.1)⟩
theorem s_br : C_br (fun _ => true) (fun x => (decCmp x.1 x.2.1, ())) := S_br s_bm s_bo s_bq fun x _ => ⟨0, (ev_br 0 x.1 x.2.1).trans (p_decCmp x.1 x.2.1 _ fun h1 h2 => by
  unfold decAt
  simp only [h1, h2, in03, Bool.and_self, cond_true])⟩
theorem s_aw : C_aw (fun _ => true) (fun x => (decCmp x.1 x.2.1, ())) := S_aw s_at s_av fun x _ => ⟨0, (ev_aw 0 x.1 x.2.1).trans (p_decCmp x.1 x.2.1 _ fun h1 h2 => by
  simp only [h1, h2, in03, Bool.and_self, cond_true]
  exact p_cmpI _ _)⟩
theorem s_bk : C_bk (fun _ => true) (fun x => (inq x.1 1 4, ())) := S_bk s_iin fun x _ => ⟨0, ev_bk 0 x.1⟩
theorem s_bs : C_bs (fun _ => true) (fun x => (askOk x.1, ())) := S_bs s_bk s_bm s_br s_iin fun x _ => ⟨0, (ev_bs 0 x.1).trans (by
  simp only [Qbu, Qbv, Qb3]; rfl)⟩
theorem s_ax : C_ax (fun _ => true) (fun x => (askOk x.1, ())) := S_ax s_ar s_at s_aw fun x _ => ⟨0, (ev_ax 0 x.1).trans (by
  simp only [Qbu, Qbv, Qb3]; rfl)⟩
theorem s_c0 : C_c0 (fun _ => true) (fun x => (spcIn x.1 x.2.1, ())) := S_c0 s_bs s_bm s_bo s_br fun x _ => ⟨0, (ev_c0 0 x.1 x.2.1).trans (p_spcIn x.1 x.2.1 _ fun h1 h2 => by
  have h3 := Qge h1
  have e : decAt x.2.1 x.1.2.2.2 = atR x.2.1 x.1.2.2.2 := by unfold decAt; rw [h2, h3]; rfl
  simp only [e, Qbu, Qbv, Qb3])⟩
theorem s_b1 : C_b1 (fun _ => true) (fun x => (spcIn x.1 x.2.1, ())) := S_b1 s_ax s_at s_av s_aw fun x _ => ⟨0, (ev_b1 0 x.1 x.2.1).trans (p_spcIn x.1 x.2.1 _ fun h1 h2 => by
  simp only [h2, Qge h1, Bool.and_self, cond_true, Qbu, Qbv, Qb3])⟩

end Go.Proofs.YtmbmoenjhfkgkaaGreat

set_option linter.unusedVariables false
set_option linter.unusedSimpArgs false
namespace Go.Proofs.YtmbmoenjhfkgkaaGreat
open Go.Vm

theorem s_ad : C_ad (fun _ => true) (fun x => (x.1, ())) := S_ad fun x _ => ⟨0, ev_ad 0 x.1⟩
theorem s_ae : C_ae (fun _ => true) (fun x => (x.1, ())) := S_ae s_ad fun x _ => ⟨0, ev_ae 0 x.1⟩

theorem p_bt (xs : List MAsk) (hx : xs.length <= 4294967296) : r_bt (fun x => (askOk x.1, ())) (fun x => (inq x.1 x.2.1 x.2.2.1, ())) (xs, ()) (xs.length + 1) pt1 (h0_bt xs (xs.length : Int) ((0 : Nat) : Int)) = some (asksOk none xs && inq xs.length 1 4, ()) := by
  refine Qh2 xs hx (inq xs.length 1 4) (fun k i => r_bt (fun x => (askOk x.1, ())) (fun x => (inq x.1 x.2.1 x.2.2.1, ())) (xs, ()) k pt1 (h0_bt xs (xs.length : Int) (i : Int))) (fun k => ?_) (fun k i x r hd hi => ?_)
  · rw [rd0_bt, Qad (Nat.le_refl _)]; rfl
  · rw [rd0_bt, Qaa hi, Qae hi, Qaf (by omega)]
    exact Qh3 hx hd hi _ (fun j => rdL (e := S_SpcTest) xs j) (fun j hj => Qfl j hj)
theorem s_bt : C_bt (fun x => decide (List.length x.1 <= 4294967296)) (fun x => (testsOk x.1, ())) := S_bt s_bs s_iin fun x hx => ⟨_, (ev_bt _ x.1).trans ((p_bt x.1 (of_decide_eq_true hx)).trans (by
  unfold testsOk; rw [Bool.and_comm]))⟩

theorem p_ay (xs : List MAsk) (hx : xs.length <= 4294967296) : r_ay (fun x => (inq x.1 x.2.1 x.2.2.1, ())) (fun x => (askOk x.1, ())) (xs, ()) (xs.length + 1) pt0 (h0_ay xs ((0 : Nat) : Int)) = some (asksOk none xs && true, ()) := by
  refine Qh2 xs hx true (fun k i => r_ay (fun x => (inq x.1 x.2.1 x.2.2.1, ())) (fun x => (askOk x.1, ())) (xs, ()) k pt0 (h0_ay xs (i : Int))) (fun k => ?_) (fun k i x r hd hi => ?_)
  · rw [rd0_ay, Qad (Nat.le_refl _)]; rfl
  · rw [rd0_ay, Qaa hi, Qae hi, Qaf (by omega)]
    exact Qh3 hx hd hi _ (fun j => rdL (e := S_SpcTest) xs j) (fun j hj => Qfl j hj)
theorem s_ay : C_ay (fun _ => true) (fun x => (testsOk x.1, ())) := S_ay s_ar s_ax fun x _ => ⟨List.length x.1 + 1, (ev_ay _ x.1).trans (by
  unfold testsOk
  cases h : inq (List.length x.1) 1 4
  · rfl
  · have := Qak.1 h
    refine (p_ay x.1 (by omega)).trans ?_
    rw [Bool.and_true]; rfl)⟩

theorem s_a1 : C_a1 (fun x => okLen (List.length x.1) && inq x.2.1 0 1048576) (fun x => (if x.2.1 < (List.length x.1 : Int) then -1 else x.2.1 - (List.length x.1 : Int), ())) := S_a1 fun x hx => ⟨0, (ev_a1 0 x.1 x.2.1).trans (by
  have key : ∀ (n : Nat) (l : Int), n <= 9223372036854775807 -> 0 <= l -> l <= 1048576 -> (bif (decide ((w64 (l - (n : Int))) < (0 : Int))) then (some ((-1 : Int), ())) else (some ((w64 (l - (n : Int))), ()))) = some (if l < (n : Int) then -1 else l - (n : Int), ()) := fun n l h1 h2 h3 => by
    rw [Qal (by omega) (by omega)]
    by_cases h : l < n
    · rw [if_pos h, decide_eq_true (by omega)]; rfl
    · rw [if_neg h, decide_eq_false (by omega)]; rfl
  have h := Bool.and_eq_true_iff.1 hx
  have h2 := Qak.1 h.2
  exact key _ _ (Qat.1 h.1) h2.1 h2.2)⟩

theorem p_make {n : Nat} {α : Type} {X : Option α} (h : n <= 4294967296) : (bif (bif (bif (decide ((0 : Int) <= (n : Int))) then (decide ((n : Int) <= (BIG : Int))) else false) then (decide ((n : Int) = (n : Int))) else false) then X else none) = X := by
  rw [decide_eq_true (show (0 : Int) <= (n : Int) by omega), decide_eq_true (show (n : Int) <= (BIG : Int) by show (n : Int) <= ((4294967296 : Nat) : Int); omega), decide_eq_true rfl]; rfl

theorem s_af : C_af (fun x => decide (List.length x.1 <= 4294967296)) (fun x => (x.1, ())) := S_af s_ae fun x hx => ⟨List.length x.1 + 1, (ev_af _ x.1).trans (by
  have hx : List.length x.1 <= 4294967296 := of_decide_eq_true hx
  rw [p_make hx]
  refine (Qb9 (α := MAsk) x.1 (fun y => y) (fun k i out => r_af (fun x => (x.1, ())) (x.1, ()) k pt0 (h0_af x.1 (i : Int) out)) (fun k out ho => ?_) (fun k i y r out hd hi ho => ?_) _ ?_).trans ?_
  · rw [rd0_af, Qad (Nat.le_refl _)]; rfl
  · rw [rd0_af, Qaa hi, Qaa (ho.symm ▸ hi), Qae hi, Qaf (by omega), Int.toNat_natCast, Qab hd]; rfl
  · rw [List.length_replicate]; exact Int.toNat_natCast _
  · rw [List.map_id'])⟩

theorem s_d1 : C_d1 (fun _ => true) (fun x => (same x.1 x.2.1, ())) := S_d1 fun x _ => ⟨0, (ev_d1 0 x.1 x.2.1).trans (by
  simp only [Qas, Qb4, Qbu, Qbv, Qb3, Qa3, Bool.and_true]
  exact congrArg (fun b => some (b, ())) (Qap _ _ _ _))⟩
theorem s_d2 : C_d2 (fun _ => true) (fun x => (same x.1 x.2.1, ())) := S_d2 s_d1 fun x _ => ⟨0, (ev_d2 0 x.1 x.2.1).trans (by
  simp only [Qas, Qb4, Qbu, Qbv, Qb3, Qa3, Bool.and_true]
  refine congrArg (fun b => some (b, ())) ?_
  rw [Qap, Qap, Qap])⟩

/-- Two rows of one length, and the loop over them. -/
theorem p_eqS {α : Type} {xs ys : List α} {X : Option (Bool × Unit)} (h : xs.length = ys.length -> X = some (same xs ys, ())) : (bif (bif (decide ((xs.length : Int) = (ys.length : Int))) then false else true) then (some (false, ())) else X) = some (same xs ys, ()) := by
  by_cases hl : xs.length = ys.length
  · rw [decide_eq_true (by omega)]; exact h hl
  · rw [decide_eq_false (by omega), Qdi fun e => hl (by rw [e])]; rfl

theorem s_d3 : C_d3 (fun x => decide (List.length x.1 <= 4294967296)) (fun x => (same x.1 x.2.1, ())) := S_d3 s_d2 fun x hx => ⟨List.length x.1 + 1, (ev_d3 _ x.1 x.2.1).trans (p_eqS fun hl => by
  have hx : List.length x.1 <= 4294967296 := of_decide_eq_true hx
  refine Qb5 (α := MAsk) x.1 x.2.1 hl (fun k i => r_d3 (fun x => (same x.1 x.2.1, ())) (x.1, x.2.1, ()) k pt0 (h0_d3 x.1 x.2.1 (i : Int))) (fun k => ?_) (fun k i y z r r' hd hd' hi hi' => ?_)
  · rw [rd0_d3, Qad (Nat.le_refl _)]; rfl
  · rw [rd0_d3, Qaa hi, Qaa hi', Qae hi, Qaf (by omega), Qab hd, Qab hd', Qas, Qb4]; rfl)⟩

end Go.Proofs.YtmbmoenjhfkgkaaGreat

set_option linter.unusedVariables false
set_option linter.unusedSimpArgs false
namespace Go.Proofs.YtmbmoenjhfkgkaaGreat
open Go.Vm

theorem s_a2 : C_a2 (fun x => okLen (List.length x.1.1) && inq x.2.1 0 1048576) (fun x => (szSpc x.1 x.2.1, ())) := S_a2 s_a1 fun x hx => ⟨0, (ev_a2 0 x.1 x.2.1).trans (by
  have hx : (okLen (List.length x.1.1) && inq x.2.1 0 1048576) = true := hx
  simp only [hx, cond_true]
  have key : ∀ (s : MSpc) (l : Int), 0 <= l -> (bif decide ((if l < (s.1.length : Int) then -1 else l - (s.1.length : Int)) < (0 : Int)) then (some ((-1 : Int), ())) else (some ((if l < (s.1.length : Int) then -1 else l - (s.1.length : Int)), ()))) = some (szSpc s l, ()) := fun s l h => by
    unfold szSpc szAsk
    by_cases h1 : l < (s.1.length : Int)
    · rw [if_pos h1]; rfl
    · rw [if_neg h1, decide_eq_false (by omega)]; rfl
  exact key x.1 x.2.1 (Qak.1 (Bool.and_eq_true_iff.1 hx).2).1)⟩

/-- Lists that came in. -/
def wfSpcs (l : List MSpc) : Bool := okLen l.length && l.all (fun s => okLen s.1.length)
theorem s_a3 : C_a3 (fun x => wfSpcs x.1 && inq x.2.1 0 1048576) (fun x => (szList szSpc x.1 x.2.1, ())) := S_a3 s_a2 fun x hx => ⟨List.length x.1 + 1, (ev_a3 _ x.1 x.2.1).trans (by
  obtain ⟨h1, h2⟩ := Bool.and_eq_true_iff.1 hx
  obtain ⟨h3, h4⟩ := Bool.and_eq_true_iff.1 h1
  obtain ⟨h5, h6⟩ := Qak.1 h2
  have h4 : ∀ s ∈ (x.1 : List MSpc), okLen s.1.length = true := fun s hs => List.all_eq_true.1 h4 s hs
  refine p_sz0 (Qat.1 h3) h5 h6 fun hle => ?_
  have key : ∀ (xs : List MSpc) (l l0 : Int), xs.length <= 1048576 -> 0 <= l -> l <= 1048576 -> (∀ s ∈ xs, okLen s.1.length = true) -> r_a3 (fun x => (szSpc x.1 x.2.1, ())) (fun x => okLen (List.length x.1.1) && inq x.2.1 0 1048576) (xs, l0, ()) (xs.length + 1) pt2 (h0_a3 xs l0 l ((0 : Nat) : Int)) = some (szGo szSpc xs l, ()) := fun xs l l0 hx h0 h1 hm => by
    refine Qhk xs szSpc (fun s l h => Qjc _ _ h) (fun k i l => r_a3 _ _ (xs, l0, ()) k pt2 (h0_a3 xs l0 l (i : Int))) (fun k l => ?_) (fun k i y r l hd hi g0 g1 => ?_) l h0 h1
    · rw [rd0_a3, Qad (Nat.le_refl _)]; rfl
    · rw [rd0_a3, Qaa hi, Qae hi, Qaf (by omega), Qab hd]
      have : (okLen (List.length y.1) && inq l 0 1048576) = true := Bool.and_eq_true_iff.2 ⟨hm y (Qau hd), Qak.2 ⟨g0, g1⟩⟩
      simp only [this, cond_true]
  have e : w64 ((x.2.1 : Int) - ((List.length x.1 : Nat) : Int)) = x.2.1 - ((List.length x.1 : Nat) : Int) := Qal (Int.le_trans (by decide) (Int.sub_nonneg.2 hle)) (Int.le_trans (Int.sub_le_self _ (Int.natCast_nonneg _)) (Int.le_trans h6 (by decide)))
  rw [e]
  exact key x.1 _ x.2.1 (Int.ofNat_le.1 (show ((List.length x.1 : Nat) : Int) <= ((1048576 : Nat) : Int) from Int.le_trans hle h6)) (Int.sub_nonneg.2 hle) (Int.le_trans (Int.sub_le_self _ (Int.natCast_nonneg _)) h6) h4)⟩

theorem s_ag : C_ag (fun x => smA x.1.1) (fun x => (x.1, ())) := S_ag s_af fun x hx => ⟨0, (ev_ag 0 x.1).trans (by
  have hx : decide (List.length x.1.1 <= 4294967296) = true := hx
  rw [hx]; rfl)⟩
theorem s_ah : C_ah (fun x => smS x.1) (fun x => (x.1, ())) := S_ah s_ag fun x hx => ⟨List.length x.1 + 1, (ev_ah _ x.1).trans (by
  obtain ⟨h1, h2⟩ := Qdq.1 hx
  have h1 : List.length x.1 <= 4294967296 := h1
  rw [p_make h1]
  refine (Qb9 (α := MSpc) x.1 (fun y => y) (fun k i out => r_ah (fun x => (x.1, ())) (fun x => smA x.1.1) (x.1, ()) k pt0 (h0_ah x.1 (i : Int) out)) (fun k out ho => ?_) (fun k i y r out hd hi ho => ?_) _ ?_).trans ?_
  · rw [rd0_ah, Qad (Nat.le_refl _)]; rfl
  · have h3 : smA y.1 = true := decide_eq_true (h2 y (Qau hd))
    rw [rd0_ah, Qaa hi, Qaa (ho.symm ▸ hi), Qae hi, Qaf (by omega), Int.toNat_natCast, Qab hd]
    simp only [h3, cond_true]
  · rw [List.length_replicate]; exact Int.toNat_natCast _
  · rw [List.map_id'])⟩

theorem s_d4 : C_d4 (fun x => smA x.1.1) (fun x => (same x.1 x.2.1, ())) := S_d4 s_d3 fun x hx => ⟨0, (ev_d4 0 x.1 x.2.1).trans (by
  have hx : decide (List.length x.1.1 <= 4294967296) = true := hx
  rw [hx]
  simp only [cond_true, Qas, Qb4, Qbu, Qbv, Qb3, Qa3, Bool.and_true]
  exact congrArg (fun b => some (b, ())) (Qap _ _ _ _))⟩
theorem s_d5 : C_d5 (fun x => smS x.1) (fun x => (same x.1 x.2.1, ())) := S_d5 s_d4 fun x hx => ⟨List.length x.1 + 1, (ev_d5 _ x.1 x.2.1).trans (p_eqS fun hl => by
  obtain ⟨h1, h2⟩ := Qdq.1 hx
  have h1 : List.length x.1 <= 4294967296 := h1
  refine Qb5 (α := MSpc) x.1 x.2.1 hl (fun k i => r_d5 (fun x => (same x.1 x.2.1, ())) (fun x => smA x.1.1) (x.1, x.2.1, ()) k pt0 (h0_d5 x.1 x.2.1 (i : Int))) (fun k => ?_) (fun k i y z r r' hd hd' hi hi' => ?_)
  · rw [rd0_d5, Qad (Nat.le_refl _)]; rfl
  · have h3 : smA y.1 = true := decide_eq_true (h2 y (Qau hd))
    rw [rd0_d5, Qaa hi, Qaa hi', Qae hi, Qaf (by omega), Qab hd, Qab hd']
    simp only [h3, cond_true, Qas, Qb4])⟩

theorem p_az (xs : List MSpc) (hx : xs.length <= 4294967296) : r_az (fun x => (testsOk x.1, ())) (fun x => (inq x.1 x.2.1 x.2.2.1, ())) (xs, ()) (xs.length + 1) pt2 (h0_az xs 0 ((0 : Nat) : Int)) = some (xs.all spcOk1 && decide (force xs <= 1), ()) := by
  refine Qh4 xs hx (fun c => decide (c <= 1)) (fun k i c => r_az (fun x => (testsOk x.1, ())) (fun x => (inq x.1 x.2.1 x.2.2.1, ())) (xs, ()) k pt2 (h0_az xs c (i : Int))) (fun k c => ?_) (fun k i x r c hd hi h0 h1 => ?_)
  · rw [rd0_az, Qad (Nat.le_refl _)]; rfl
  · rw [rd0_az, Qaa hi, Qae hi, Qaf (by omega), Qab hd, Qal (x := c + 1) (by omega) (by omega)]
    unfold spcOk1
    cases testsOk x.1 <;> cases inq x.2 1 3 <;> rfl
theorem s_az : C_az (fun _ => true) (fun x => (spcsOk x.1, ())) := S_az s_ay s_ar fun x hx => ⟨List.length x.1 + 1, (ev_az _ x.1).trans (by
  have key : ∀ xs : List MSpc, (bif decide ((6 : Int) < (xs.length : Int)) then some (false, ()) else r_az (fun x => (testsOk x.1, ())) (fun x => (inq x.1 x.2.1 x.2.2.1, ())) (xs, ()) (xs.length + 1) pt2 (h0_az xs 0 ((0 : Nat) : Int))) = some (spcsOk xs, ()) := fun xs => by
    unfold spcsOk
    by_cases h : (6 : Int) < (xs.length : Int)
    · rw [decide_eq_true h, decide_eq_false (by omega)]; rfl
    · rw [decide_eq_false h, decide_eq_true (by omega)]; exact p_az xs (by omega)
  exact key x.1)⟩
theorem p_bu (xs : List MSpc) (hx : xs.length <= 4294967296) (hs : ∀ s ∈ xs, s.1.length <= 4294967296) : r_bu (fun x => (testsOk x.1, ())) (fun x => decide (List.length x.1 <= 4294967296)) (fun x => (inq x.1 x.2.1 x.2.2.1, ())) (xs, ()) (xs.length + 1) pt0 (h0_bu xs 0 (xs.length : Int) ((0 : Nat) : Int)) = some (xs.all spcOk1 && (decide (xs.length <= 6) && decide (force xs <= 1)), ()) := by
  refine Qh4 xs hx (fun c => decide (xs.length <= 6) && decide (c <= 1)) (fun k i c => r_bu (fun x => (testsOk x.1, ())) (fun x => decide (List.length x.1 <= 4294967296)) (fun x => (inq x.1 x.2.1 x.2.2.1, ())) (xs, ()) k pt0 (h0_bu xs c (xs.length : Int) (i : Int))) (fun k c => ?_) (fun k i x r c hd hi h0 h1 => ?_)
  · rw [rd0_bu, Qad (Nat.le_refl _)]
    by_cases h : xs.length <= 6
    · rw [decide_eq_true h, decide_eq_true (show ((xs.length : Int)) <= 6 by omega)]; rfl
    · rw [decide_eq_false h, decide_eq_false (show ¬ ((xs.length : Int)) <= 6 by omega)]; rfl
  · have h3 : decide (x.1.length <= 4294967296) = true := decide_eq_true (hs x (Qau hd))
    rw [rd0_bu, Qaa hi, Qae hi, Qaf (by omega), Qab hd, Qal (x := c + 1) (by omega) (by omega)]
    simp only [h3]
    unfold spcOk1
    cases testsOk x.1 <;> cases inq x.2 1 3 <;> rfl
theorem s_bu : C_bu (fun x => smS x.1) (fun x => (spcsOk x.1, ())) := S_bu s_bt s_iin fun x hx => ⟨_, (ev_bu _ x.1).trans ((p_bu x.1 (Qdq.1 hx).1 (Qdq.1 hx).2).trans (by
  unfold spcsOk; rw [Bool.and_left_comm]))⟩

end Go.Proofs.YtmbmoenjhfkgkaaGreat

set_option linter.unusedVariables false
set_option linter.unusedSimpArgs false
namespace Go.Proofs.YtmbmoenjhfkgkaaGreat
open Go.Vm

theorem Qm2 (a b : MDec) : Sh.beq S_DecDec a b = same a b := by
  show (decide (a.1 = b.1) && decide (a.2 = b.2)) = _
  rw [Qa3, Qa3, Qap]

theorem s_bv : C_bv (fun _ => true) (fun x => (!decOk x.1, ())) := S_bv s_bm fun x _ => ⟨0, (ev_bv 0 x.1).trans (by simp only [Qas])⟩
theorem s_bw : C_bw (fun x => decide (List.length x.1 <= 4294967296)) (fun x => (idxOf (fun d => !decOk d) x.1 0, ())) := S_bw s_bv fun x hx => ⟨List.length x.1 + 1, (ev_bw _ x.1 x.2.1).trans (by
  have hx : List.length x.1 <= 4294967296 := of_decide_eq_true hx
  refine Qbz (α := MDec) x.1 (fun d => !decOk d) (fun k i => r_bw (fun x => (!decOk x.1, ())) (x.1, x.2.1, ()) k pt1 (h0_bw x.1 x.2.1 (List.length x.1 : Int) (i : Int))) (fun k => ?_) (fun k i y r hd hi => ?_)
  · rw [rd0_bw, Qad (Nat.le_refl _)]; rfl
  · rw [rd0_bw, Qaa hi, Qae hi, Qaf (by omega), Qab hd]; rfl)⟩
theorem s_bx : C_bx (fun x => decide (List.length x.1 <= 4294967296)) (fun x => (List.any x.1 (fun d => !decOk d), ())) := S_bx s_bw fun x hx => ⟨0, (ev_bx 0 x.1 x.2.1).trans (by
  have hx : decide (List.length x.1 <= 4294967296) = true := hx
  simp only [hx, cond_true, Qbe])⟩
theorem s_by : C_by (fun x => decide (List.length x.1 <= 4294967296)) (fun x => (List.all x.1 decOk, ())) := S_by s_bx fun x hx => ⟨0, (ev_by 0 x.1).trans (by
  have hx : decide (List.length x.1 <= 4294967296) = true := hx
  simp only [hx, cond_true, Qas, Qbf])⟩

theorem s_bz : C_bz (fun _ => true) (fun x => (need x.1, ())) := S_bz fun x _ => ⟨0, (ev_bz 0 x.1).trans (by
  have key : ∀ c : Int, (bif (decide (c = (1 : Int))) then (some ((1 : Int), ())) else (bif (decide (c = (2 : Int))) then (some ((2 : Int), ())) else (some ((0 : Int), ())))) = some (need c, ()) := fun c => by
    unfold need
    by_cases h1 : c = 1
    · rw [decide_eq_true h1, if_pos h1]; rfl
    · rw [decide_eq_false h1, if_neg h1]
      by_cases h2 : c = 2
      · rw [decide_eq_true h2, if_pos h2]; rfl
      · rw [decide_eq_false h2, if_neg h2]; rfl
  exact key x.1)⟩
theorem s_b0 : C_b0 (fun _ => true) (fun x => (need x.1, ())) := S_b0 fun x _ => ⟨0, (ev_b0 0 x.1).trans (by
  have key : ∀ c : Int, (bif (decide (c = (1 : Int))) then (some ((1 : Int), ())) else (bif (decide (c = (2 : Int))) then (some ((2 : Int), ())) else (some ((0 : Int), ())))) = some (need c, ()) := fun c => by
    unfold need
    by_cases h1 : c = 1
    · rw [decide_eq_true h1, if_pos h1]; rfl
    · rw [decide_eq_false h1, if_neg h1]
      by_cases h2 : c = 2
      · rw [decide_eq_true h2, if_pos h2]; rfl
      · rw [decide_eq_false h2, if_neg h2]; rfl
  exact key x.1)⟩

theorem p_c1 (l : List MDec) (p : Int) (hl : inq l.length 1 100 = true) (ho : l.all decOk = true) (hp : inq p 0 3 = true) :
    r_c1 (fun x => (inq x.1 x.2.1 x.2.2.1, ())) (fun x => (List.all x.1 decOk, ())) (fun x => decide (List.length x.1 <= 4294967296)) (fun x => (decAt x.1 x.2.1, ())) (fun x => (pw x.1, ())) (fun x => decide (x.1 <= 18)) (fun x => (near x.1 x.2.1, ())) (fun x => nrPre x.1 x.2.1) (l, p, ()) (l.length + 1) pt2 (h0_c1 l p 0 (l.length : Int) ((0 : Nat) : Int) (0, 0)) = some (decMean l p, ()) := by
  obtain ⟨h1, h2⟩ := Qak.1 hl
  obtain ⟨h3, h4⟩ := Qak.1 hp
  have := Qje l (by omega) (fun c => (near (c * pw p) ((l.length : Int) * pw 3), p)) (fun k i c => r_c1 (fun x => (inq x.1 x.2.1 x.2.2.1, ())) (fun x => (List.all x.1 decOk, ())) (fun x => decide (List.length x.1 <= 4294967296)) (fun x => (decAt x.1 x.2.1, ())) (fun x => (pw x.1, ())) (fun x => decide (x.1 <= 18)) (fun x => (near x.1 x.2.1, ())) (fun x => nrPre x.1 x.2.1) (l, p, ()) k pt2 (h0_c1 l p c (l.length : Int) (i : Int) (0, 0))) (fun k c b1 b2 => ?_) (fun k i x r c hd hi b1 b2 => ?_)
  · refine this.trans ?_
    rw [ho]
    unfold decMean
    rw [hl, ho, hp, Ql1 hl hp]; rfl
  · have hpw := pw_le h4
    have hpp := Qd4 p
    have p3 : pw 3 = 1000 := rfl
    have hpc : c * pw p <= 999900000000 /\ -999900000000 <= c * pw p := by
      rcases Qeu h4 with e | e | e | e <;> rw [e] <;> omega
    rw [rd0_c1, Qad (Nat.le_refl _)]
    simp only [cond_false, p3]
    rw [decide_eq_true (show p <= 18 by omega), Qal (x := c * pw p) (by omega) (by omega), Qal (x := (l.length : Int) * 1000) (by omega) (by omega)]
    have hn : nrPre (c * pw p) ((l.length : Int) * 1000) = true := Qbw.2 ⟨⟨by omega, by omega⟩, by omega, by omega⟩
    rw [hn]; rfl
  · have hx : decOk x = true := List.all_eq_true.1 ho x (Qau hd)
    have hb := Qfh hx
    rw [rd0_c1, Qaa hi, Qae hi, Qaf (by omega), Qab hd, hx]
    have e : decAt x 3 = atR x 3 := by unfold decAt; rw [hx]; rfl
    simp only [e, cond_true]
    rw [Qal (by omega) (by omega)]
theorem s_c1 : C_c1 (fun x => decide (List.length x.1 <= 4294967296)) (fun x => (decMean x.1 x.2.1, ())) := S_c1 s_iin s_by s_bo s_bl s_bn fun x hx => ⟨List.length x.1 + 1, (ev_c1 _ x.1 x.2.1).trans (by
  have hx : decide (List.length x.1 <= 4294967296) = true := hx
  simp only [hx, cond_true]
  cases hl : inq (List.length x.1) 1 100
  · unfold decMean; rw [hl]; rfl
  · cases ho : List.all x.1 decOk
    · unfold decMean; rw [hl, ho]; rfl
    · cases hp : inq x.2.1 0 3
      · unfold decMean; rw [hl, ho, hp]; rfl
      · exact p_c1 x.1 x.2.1 hl ho hp)⟩
theorem p_b2 (l : List MDec) (p : Int) (hl : inq l.length 1 100 = true) (hp : inq p 0 3 = true) :
    r_b2 (fun x => (inq x.1 x.2.1 x.2.2.1, ())) (fun x => (decOk x.1, ())) (fun x => (atR x.1 x.2.1, ())) (fun x => decOk x.1 && inq x.2.1 0 3) (fun x => (pw x.1, ())) (fun x => decide (x.1 <= 18)) (fun x => (near x.1 x.2.1, ())) (fun x => nrPre x.1 x.2.1) (l, p, ()) (l.length + 1) pt2 (h0_b2 l p 0 ((0 : Nat) : Int) (0, 0)) = some (decMean l p, ()) := by
  obtain ⟨h1, h2⟩ := Qak.1 hl
  obtain ⟨h3, h4⟩ := Qak.1 hp
  have := Qje l (by omega) (fun c => (near c ((l.length : Int) * pw (3 - p)), p)) (fun k i c => r_b2 (fun x => (inq x.1 x.2.1 x.2.2.1, ())) (fun x => (decOk x.1, ())) (fun x => (atR x.1 x.2.1, ())) (fun x => decOk x.1 && inq x.2.1 0 3) (fun x => (pw x.1, ())) (fun x => decide (x.1 <= 18)) (fun x => (near x.1 x.2.1, ())) (fun x => nrPre x.1 x.2.1) (l, p, ()) k pt2 (h0_b2 l p c (i : Int) (0, 0))) (fun k c b1 b2 => ?_) (fun k i x r c hd hi b1 b2 => ?_)
  · refine this.trans ?_
    unfold decMean
    rw [hl, hp]
    cases l.all decOk <;> rfl
  · have hpw := pw_le (n := 3 - p) (by omega)
    have hpp := Qd4 (3 - p)
    have hpc : (l.length : Int) * pw (3 - p) <= 100000 /\ 1 <= (l.length : Int) * pw (3 - p) := by
      rcases Qeu (n := 3 - p) (by omega) with e | e | e | e <;> rw [e] <;> omega
    rw [rd0_b2, Qad (Nat.le_refl _)]
    simp only [cond_false]
    rw [Qal (x := 3 - p) (by omega) (by omega), decide_eq_true (show 3 - p <= 18 by omega), Qal (x := (l.length : Int) * pw (3 - p)) (by omega) (by omega)]
    have hn : nrPre c ((l.length : Int) * pw (3 - p)) = true := Qbw.2 ⟨⟨by omega, by omega⟩, by omega, by omega⟩
    rw [hn]; rfl
  · rw [rd0_b2, Qaa hi, Qae hi, Qaf (by omega), Qab hd]
    cases hx : decOk x
    · rfl
    · have hb := Qfh hx
      simp only [hx, in03, Bool.and_self, cond_true, cond_false]
      rw [Qal (by omega) (by omega)]
theorem s_b2 : C_b2 (fun x => decide (List.length x.1 <= 4294967296)) (fun x => (decMean x.1 x.2.1, ())) := S_b2 s_ar s_at s_av s_as s_au fun x hx => ⟨List.length x.1 + 1, (ev_b2 _ x.1 x.2.1).trans (by
  have key : ∀ (l : List MDec) (p : Int) (X : Option (MDec × Unit)), (inq l.length 1 100 = true -> inq p 0 3 = true -> X = some (decMean l p, ())) -> (bif (decide ((l.length : Int) = (0 : Int))) then (some (((0 : Int), (0 : Int)), ())) else (bif (decide ((100 : Int) < (l.length : Int))) then (some (((0 : Int), (0 : Int)), ())) else (bif (bif inq p 0 3 then false else true) then (some (((0 : Int), (0 : Int)), ())) else X))) = some (decMean l p, ()) := fun l p X hX => by
    by_cases h0 : (l.length : Int) = 0
    · have : inq l.length 1 100 = false := by unfold inq; rw [decide_eq_false (by omega)]; rfl
      rw [decide_eq_true h0]; unfold decMean; rw [this]; rfl
    · by_cases h1 : (100 : Int) < (l.length : Int)
      · have : inq l.length 1 100 = false := by unfold inq; rw [decide_eq_false (show ¬ (l.length : Int) <= 100 by omega), Bool.and_false]
        rw [decide_eq_false h0, decide_eq_true h1]; unfold decMean; rw [this]; rfl
      · have hl : inq l.length 1 100 = true := Qak.2 ⟨by omega, by omega⟩
        rw [decide_eq_false h0, decide_eq_false h1]
        cases hp : inq p 0 3
        · unfold decMean; rw [hp, Bool.and_false, Bool.and_false]; rfl
        · exact hX hl hp
  exact key x.1 x.2.1 _ fun hl hp => p_b2 x.1 x.2.1 hl hp)⟩

end Go.Proofs.YtmbmoenjhfkgkaaGreat

set_option linter.unusedVariables false
set_option linter.unusedSimpArgs false
namespace Go.Proofs.YtmbmoenjhfkgkaaGreat
open Go.Vm

theorem rdLmore {l : List MDec} (h : l ≠ []) : rdL (e := S_DecDec) l (0 : Int) = l.getD 0 (0, 0) := rfl
theorem Qm3 {l : List MDec} (h : l ≠ []) (ho : l.all decOk = true) : decOk (l.getD 0 (0, 0)) = true := by
  cases l with
  | nil => exact absurd rfl h
  | cons d r => exact List.all_eq_true.1 ho d List.mem_cons_self
theorem Qde {t : MTst} : tlPre t = true ↔ tsPre t = true /\ (t.2.2.2.1 = 1 -> t.2.2.2.2 ≠ []) := by
  unfold tlPre
  simp only [Bool.and_eq_true, Bool.or_eq_true, Bool.not_eq_true', decide_eq_false_iff_not, List.isEmpty_eq_false_iff]
  exact ⟨fun h => ⟨h.1, fun e => h.2.resolve_left (fun hn => hn e)⟩, fun h => ⟨h.1, Classical.or_iff_not_imp_left.2 fun hn => h.2 (Classical.not_not.1 hn)⟩⟩
theorem Qnd {l : List MDec} (h : l ≠ []) : (bif (decide ((0 : Int) <= (0 : Int))) then (decide ((0 : Int) < (l.length : Int))) else false) = true := by
  have : 0 < l.length := List.length_pos_iff.2 h
  exact Qaa (i := 0) this

theorem p_tell {t : MTst} (h : tlPre t = true) (A B C : Option (MDec × Unit)) (hA : t.2.2.2.2 ≠ [] -> A = some (decAt (t.2.2.2.2.getD 0 (0, 0)) t.1.2.2.2, ())) (hB : B = some (decMean (t.2.2.1 :: t.2.2.2.2) t.1.2.2.2, ())) (hC : C = some (decAt t.2.2.1 t.1.2.2.2, ())) :
    (bif (decide (t.2.2.2.1 = (1 : Int))) then (bif (bif (decide ((0 : Int) <= (0 : Int))) then (decide ((0 : Int) < (t.2.2.2.2.length : Int))) else false) then A else none) else (bif (decide (t.2.2.2.1 = (2 : Int))) then (bif (fitL [t.2.2.1] t.2.2.2.2) then B else none) else C)) = some (tell t, ()) := by
  obtain ⟨h1, h2⟩ := Qde.1 h
  obtain ⟨_, _, _, h3⟩ := Qca.1 h1
  unfold tell
  by_cases c1 : t.2.2.2.1 = 1
  · rw [decide_eq_true c1, if_pos c1, Qnd (h2 c1), hA (h2 c1)]; rfl
  · rw [decide_eq_false c1, if_neg c1]
    by_cases c2 : t.2.2.2.1 = 2
    · rw [decide_eq_true c2, if_pos c2, Qj1 (by simp; omega), hB]; rfl
    · rw [decide_eq_false c2, if_neg c2, hC]; rfl

theorem s_c2 : C_c2 (fun x => tlPre x.1) (fun x => (tell x.1, ())) := S_c2 s_bo s_c1 fun x hx => ⟨0, (ev_c2 0 x.1).trans (by
  have hx : tlPre x.1 = true := hx
  obtain ⟨_, _, _, h3⟩ := Qca.1 (Qde.1 hx).1
  refine p_tell hx _ _ _ (fun _ => rfl) ?_ rfl
  have : decide (List.length (List.append [x.1.2.2.1] x.1.2.2.2.2) <= 4294967296) = true := decide_eq_true (by
    show (x.1.2.2.1 :: x.1.2.2.2.2).length <= _
    rw [List.length_cons]; exact Nat.le_trans (Nat.succ_le_succ h3) (by decide))
  rw [this]; rfl)⟩
theorem s_b3 : C_b3 (fun x => tlPre x.1) (fun x => (tell x.1, ())) := S_b3 s_av s_b2 fun x hx => ⟨0, (ev_b3 0 x.1).trans (by
  have hx : tlPre x.1 = true := hx
  obtain ⟨g1, g2, g3, h3⟩ := Qca.1 (Qde.1 hx).1
  have hp := Qge g1
  have hat : ∀ d, decOk d = true -> decAt d x.1.1.2.2.2 = atR d x.1.1.2.2.2 := fun d hd => by unfold decAt; rw [hd, hp]; rfl
  refine p_tell hx _ _ _ (fun hne => ?_) ?_ ?_
  · have ho := Qm3 hne g3
    have e : (decOk (rdL (e := S_DecDec) x.1.2.2.2.2 (0 : Int)) && inq x.1.1.2.2.2 0 3) = true := by rw [rdLmore hne, ho, hp]; rfl
    rw [hat _ ho]
    simp only [e, cond_true]; rfl
  · have : decide (List.length (List.append [x.1.2.2.1] x.1.2.2.2.2) <= 4294967296) = true := decide_eq_true (by
      show (x.1.2.2.1 :: x.1.2.2.2.2).length <= _
      rw [List.length_cons]; exact Nat.le_trans (Nat.succ_le_succ h3) (by decide))
    rw [this]; rfl
  · rw [hat _ g2]
    simp only [g2, hp, Bool.and_self, cond_true])⟩

theorem s_c3 : C_c3 (fun _ => true) (fun x => (!spcIn x.2.1.1 x.1, ())) := S_c3 s_c0 fun x _ => ⟨0, (ev_c3 0 x.1 x.2.1).trans (by simp only [Qas])⟩
theorem s_c4 : C_c4 (fun x => decide (List.length x.1 <= 4294967296)) (fun x => (idxOf (fun d => !spcIn x.2.1.1.1 d) x.1 0, ())) := S_c4 s_c3 fun x hx => ⟨List.length x.1 + 1, (ev_c4 _ x.1 x.2.1).trans (by
  have hx : List.length x.1 <= 4294967296 := of_decide_eq_true hx
  refine Qbz (α := MDec) x.1 (fun d => !spcIn x.2.1.1.1 d) (fun k i => r_c4 (fun x => (!spcIn x.2.1.1 x.1, ())) (x.1, x.2.1, ()) k pt1 (h0_c4 x.1 x.2.1 (List.length x.1 : Int) (i : Int))) (fun k => ?_) (fun k i y r hd hi => ?_)
  · rw [rd0_c4, Qad (Nat.le_refl _)]; rfl
  · rw [rd0_c4, Qaa hi, Qae hi, Qaf (by omega), Qab hd]; rfl)⟩
theorem s_c5 : C_c5 (fun x => decide (List.length x.1 <= 4294967296)) (fun x => (List.any x.1 (fun d => !spcIn x.2.1.1.1 d), ())) := S_c5 s_c4 fun x hx => ⟨0, (ev_c5 0 x.1 x.2.1).trans (by
  have hx : decide (List.length x.1 <= 4294967296) = true := hx
  simp only [hx, cond_true, Qbe])⟩

theorem tl_of {t : MTst} (h : tsPre t = true) (hn : ¬ (t.2.2.2.2.length : Int) < need t.2.2.2.1) : tlPre t = true := by
  refine Qde.2 ⟨h, fun e hne => ?_⟩
  rw [hne, e] at hn
  exact hn (by decide)

theorem p_state {t : MTst} (A : Option (Int × Unit)) (h3 : t.2.2.2.1 ≠ 3) (hA : ¬ (t.2.2.2.2.length : Int) < need t.2.2.2.1 -> A = some (if passes t = true then 3 else 4, ())) (h0 : t.2.2.2.1 ≠ 0) :
    (bif (decide ((t.2.2.2.2.length : Int) < need t.2.2.2.1)) then (some ((2 : Int), ())) else A) = some (stateOf t, ()) := by
  unfold stateOf
  rw [if_neg h0, if_neg h3]
  by_cases hn : (t.2.2.2.2.length : Int) < need t.2.2.2.1
  · rw [decide_eq_true hn, if_pos hn]; rfl
  · rw [decide_eq_false hn, if_neg hn, hA hn]; rfl

theorem s_c6 : C_c6 (fun x => tsPre x.1) (fun x => (stateOf x.1, ())) := S_c6 s_c0 s_bz s_c2 s_c5 fun x hx => ⟨0, (ev_c6 0 x.1).trans (by
  have key : ∀ t : MTst, tsPre t = true -> t.2.2.2.1 ≠ 0 -> (bif (decide ((t.2.2.2.2.length : Int) < need t.2.2.2.1)) then (some ((2 : Int), ())) else (bif (bif (decide (t.2.2.2.1 = (3 : Int))) then false else true) then (bif tlPre t then (bif spcIn t.1 (tell t) then (bif decide (t.2.2.2.2.length <= 4294967296) then (bif (bif (t.2.2.2.2.any fun d => !spcIn t.1 d) then false else true) then (some ((3 : Int), ())) else (some ((4 : Int), ()))) else none) else (some ((4 : Int), ()))) else none) else (some ((4 : Int), ())))) = some (stateOf t, ()) := fun t ht h0 => by
    obtain ⟨_, _, _, h3⟩ := Qca.1 ht
    by_cases c3 : t.2.2.2.1 = 3
    · have hn : ¬ (t.2.2.2.2.length : Int) < need t.2.2.2.1 := by rw [c3]; unfold need; simp
      unfold stateOf
      rw [if_neg h0, if_pos c3, decide_eq_false hn, decide_eq_true c3]; rfl
    · refine p_state _ c3 (fun hn => ?_) h0
      rw [decide_eq_false c3, tl_of ht hn, decide_eq_true (show t.2.2.2.2.length <= 4294967296 by omega)]
      simp only [Qas, Qbf, cond_true]
      unfold passes
      cases spcIn t.1 (tell t) <;> cases t.2.2.2.2.all (spcIn t.1) <;> rfl
  have hx : tsPre x.1 = true := hx
  by_cases h0 : x.1.2.2.2.1 = 0
  · unfold stateOf
    rw [if_pos h0]
    simp only [decide_eq_true h0]
    cases spcIn x.1.1 x.1.2.2.1 <;> rfl
  · have := key x.1 hx h0
    simp only [decide_eq_false h0, cond_false]
    exact this)⟩

theorem s_b4 : C_b4 (fun x => tlPre x.1) (fun x => (passes x.1, ())) := S_b4 s_b1 s_b3 fun x hx => ⟨List.length x.1.2.2.2.2 + 1, (ev_b4 _ x.1).trans (by
  have hx : tlPre x.1 = true := hx
  obtain ⟨_, _, _, h3⟩ := Qca.1 (Qde.1 hx).1
  have h3 : List.length x.1.2.2.2.2 <= 2 := h3
  refine Qjb (α := MDec) x.1.2.2.2.2 (spcIn x.1.1) (spcIn x.1.1 (tell x.1)) (fun k i => r_b4 (fun x => (spcIn x.1 x.2.1, ())) (fun x => (tell x.1, ())) (fun x => tlPre x.1) (x.1, ()) k pt1 (h0_b4 x.1 (i : Int))) (fun k => ?_) (fun k i y r hd hi => ?_)
  · rw [rd0_b4, Qad (Nat.le_refl _)]
    simp only [hx, cond_true, cond_false]
  · rw [rd0_b4, Qaa hi, Qae hi, Qaf (by omega), Qab hd]
    simp only [cond_true, Qas, Qb4])⟩
theorem s_b5 : C_b5 (fun x => tsPre x.1) (fun x => (stateOf x.1, ())) := S_b5 s_b1 s_b0 s_b4 fun x hx => ⟨0, (ev_b5 0 x.1).trans (by
  have hx : tsPre x.1 = true := hx
  by_cases h0 : x.1.2.2.2.1 = 0
  · unfold stateOf
    rw [if_pos h0]
    simp only [decide_eq_true h0]
    cases spcIn x.1.1 x.1.2.2.1 <;> rfl
  · simp only [decide_eq_false h0, cond_false]
    by_cases c3 : x.1.2.2.2.1 = 3
    · unfold stateOf
      rw [if_neg h0, if_pos c3, decide_eq_true c3]; rfl
    · simp only [decide_eq_false c3, cond_false]
      refine p_state (t := x.1) _ c3 (fun hn => ?_) h0
      simp only [tl_of hx hn, cond_true]
      cases passes x.1 <;> rfl)⟩

theorem p_okB (t : MTst) (A : Option (Bool × Unit)) (hA : t.2.1 ≠ 0 -> A = some (decide (t.2.1 = stateOf t) && (decide (t.2.2.2.1 = 0) || !spcIn t.1 t.2.2.1), ())) :
    (bif (decide (t.2.1 = (0 : Int))) then (bif (Sh.beq S_DecDec t.2.2.1 ((0 : Int), (0 : Int))) then (some ((decide (t.2.2.2.1 = (0 : Int))), ())) else (some (false, ()))) else A) = some (tstOkB t, ()) := by
  rw [Qm2]
  unfold tstOkB
  by_cases h : t.2.1 = 0
  · rw [decide_eq_true h]
    cases same t.2.2.1 ((0 : Int), (0 : Int)) <;> rfl
  · rw [decide_eq_false h, hA h]; rfl
theorem p_okB2 (t : MTst) : (bif (decide (t.2.1 = stateOf t)) then (bif (decide (t.2.2.2.1 = (0 : Int))) then (some (true, ())) else (some ((bif spcIn t.1 t.2.2.1 then false else true), ()))) else (some (false, ()))) = some (decide (t.2.1 = stateOf t) && (decide (t.2.2.2.1 = 0) || !spcIn t.1 t.2.2.1), ()) := by
  cases decide (t.2.1 = stateOf t) <;> cases decide (t.2.2.2.1 = 0) <;> cases spcIn t.1 t.2.2.1 <;> rfl
theorem s_c7 : C_c7 (fun x => decide (List.length x.1.2.2.2.2 <= 4294967296)) (fun x => (tstOk x.1, ())) := S_c7 s_bs s_bm s_by s_iin s_bz s_c6 s_c0 fun x hx => ⟨0, (ev_c7 0 x.1).trans (by
  have hx : decide (List.length x.1.2.2.2.2 <= 4294967296) = true := hx
  simp only [hx, cond_true]
  unfold tstOk
  cases hA : tstOkA x.1
  · have hA' := hA
    unfold tstOkA at hA'
    cases h1 : askOk x.1.1
    · rfl
    · cases h2 : decOk x.1.2.2.1
      · rfl
      · cases h3 : List.all x.1.2.2.2.2 decOk
        · rfl
        · cases h4 : inq x.1.2.2.2.1 0 3
          · rfl
          · rw [h1, h2, h3, h4] at hA'
            have h5 : need x.1.2.2.2.1 < (List.length x.1.2.2.2.2 : Int) := Int.not_le.1 (of_decide_eq_false hA')
            simp only [cond_false, decide_eq_true h5]; rfl
  · have hp := Qmo hA
    unfold tstOkA at hA
    simp only [Bool.and_eq_true, decide_eq_true_eq] at hA
    obtain ⟨h1, h2, h3, h4, h5⟩ := hA
    simp only [h1, h2, h3, h4, decide_eq_false (Int.not_lt.2 h5), cond_true, cond_false, Bool.true_and]
    refine p_okB x.1 _ fun hs => ?_
    simp only [hp, cond_true]
    exact p_okB2 x.1)⟩
theorem s_b6 : C_b6 (fun _ => true) (fun x => (tstOk x.1, ())) := S_b6 s_ax s_at s_ar s_b0 s_b5 s_b1 fun x _ => ⟨List.length x.1.2.2.2.2 + 1, (ev_b6 _ x.1).trans (by
  have key : ∀ t : MTst, (bif (bif askOk t.1 then false else true) then (some (false, ())) else (bif (bif decOk t.2.2.1 then false else true) then (some (false, ())) else (bif (bif inq t.2.2.2.1 0 3 then false else true) then (some (false, ())) else (bif (decide (need t.2.2.2.1 < (t.2.2.2.2.length : Int))) then (some (false, ())) else
      (r_b6 (fun x => (askOk x.1, ())) (fun x => (decOk x.1, ())) (fun x => (inq x.1 x.2.1 x.2.2.1, ())) (fun x => (need x.1, ())) (fun x => (stateOf x.1, ())) (fun x => tsPre x.1) (fun x => (spcIn x.1 x.2.1, ())) (t, ()) (t.2.2.2.2.length + 1) pt0 (h0_b6 t ((0 : Nat) : Int))))))) = some (tstOk t, ()) := fun t => by
    unfold tstOk
    have hloop : askOk t.1 = true -> decOk t.2.2.1 = true -> inq t.2.2.2.1 0 3 = true -> (t.2.2.2.2.length : Int) <= need t.2.2.2.1 -> r_b6 (fun x => (askOk x.1, ())) (fun x => (decOk x.1, ())) (fun x => (inq x.1 x.2.1 x.2.2.1, ())) (fun x => (need x.1, ())) (fun x => (stateOf x.1, ())) (fun x => tsPre x.1) (fun x => (spcIn x.1 x.2.1, ())) (t, ()) (t.2.2.2.2.length + 1) pt0 (h0_b6 t ((0 : Nat) : Int)) = some (t.2.2.2.2.all decOk && tstOkB t, ()) := fun h1 h2 h4 h5 => by
      have h6 := Qj3 t.2.2.2.1
      by_cases h3 : t.2.2.2.2.all decOk = true
      · have hp : tsPre t = true := Qca.2 ⟨h1, h2, h3, by omega⟩
        refine Qjb (α := MDec) t.2.2.2.2 decOk (tstOkB t) (fun k i => r_b6 (fun x => (askOk x.1, ())) (fun x => (decOk x.1, ())) (fun x => (inq x.1 x.2.1 x.2.2.1, ())) (fun x => (need x.1, ())) (fun x => (stateOf x.1, ())) (fun x => tsPre x.1) (fun x => (spcIn x.1 x.2.1, ())) (t, ()) k pt0 (h0_b6 t (i : Int))) (fun k => ?_) (fun k i y r hd hi => ?_)
        · rw [rd0_b6, Qad (Nat.le_refl _)]
          refine p_okB t _ fun hs => ?_
          simp only [hp, cond_true]
          exact p_okB2 t
        · rw [rd0_b6, Qaa hi, Qae hi, Qaf (by omega), Qab hd]
          simp only [cond_true, Qas, Qb4]
      · have h3 : t.2.2.2.2.all decOk = false := Bool.eq_false_iff.2 h3
        have := Qa1 (σ := Unit) t.2.2.2.2 (fun k i _ => r_b6 (fun x => (askOk x.1, ())) (fun x => (decOk x.1, ())) (fun x => (inq x.1 x.2.1 x.2.2.1, ())) (fun x => (need x.1, ())) (fun x => (stateOf x.1, ())) (fun x => tsPre x.1) (fun x => (spcIn x.1 x.2.1, ())) (t, ()) k pt0 (h0_b6 t (i : Int))) (fun l i _ => (false, ())) (fun i _ => (t.2.2.2.2.drop i).all decOk = false) (fun k s hs => by
          rw [List.drop_length] at hs; cases hs) (fun k i y r s hd hi hs => by
          cases hy : decOk y
          · refine .inl ?_
            show r_b6 _ _ _ _ _ _ _ _ _ _ _ = _
            rw [rd0_b6, Qaa hi, Qae hi, Qaf (by omega), Qab hd]
            simp only [hy]; rfl
          · refine .inr ⟨(), ?_, ?_, rfl⟩
            · rw [hd, List.all_cons, hy] at hs
              rw [Qly hd]; exact hs
            · show r_b6 _ _ _ _ _ _ _ _ _ _ _ = _
              rw [rd0_b6, Qaa hi, Qae hi, Qaf (by omega), Qab hd]
              simp only [hy]; rfl) t.2.2.2.2.length 0 () (by omega) (by simpa using h3)
        rw [h3]
        exact this
    unfold tstOkA
    cases h1 : askOk t.1
    · rfl
    · cases h2 : decOk t.2.2.1
      · rfl
      · cases h4 : inq t.2.2.2.1 0 3
        · simp only [Bool.false_and, Bool.and_false]; rfl
        · by_cases h5 : (t.2.2.2.2.length : Int) <= need t.2.2.2.1
          · rw [decide_eq_true h5, decide_eq_false (by omega)]
            refine (hloop h1 h2 h4 h5).trans ?_
            simp only [Bool.true_and, Bool.and_true]
          · rw [decide_eq_false h5, decide_eq_true (by omega)]
            simp only [Bool.and_false, Bool.false_and]; rfl
  exact key x.1)⟩

end Go.Proofs.YtmbmoenjhfkgkaaGreat

set_option linter.unusedVariables false
set_option linter.unusedSimpArgs false
namespace Go.Proofs.YtmbmoenjhfkgkaaGreat
open Go.Vm

theorem p_szLen (n : Nat) (l : Int) (h1 : n <= 9223372036854775807) (h2 : 0 <= l) (h3 : l <= 1048576) : (bif (decide ((w64 (l - (n : Int))) < (0 : Int))) then (some ((-1 : Int), ())) else (some ((w64 (l - (n : Int))), ()))) = some (if l < (n : Int) then -1 else l - (n : Int), ()) := by
  rw [Qal (by omega) (by omega)]
  by_cases h : l < n
  · rw [if_pos h, decide_eq_true (by omega)]; rfl
  · rw [if_neg h, decide_eq_false (by omega)]; rfl
theorem p_szPass (n : Nat) (l : Int) (h : 0 <= l) : (bif decide ((if l < (n : Int) then -1 else l - (n : Int)) < (0 : Int)) then (some ((-1 : Int), ())) else (some ((if l < (n : Int) then -1 else l - (n : Int)), ()))) = some ((if l < (n : Int) then -1 else l - (n : Int)), ()) := by
  by_cases h1 : l < (n : Int)
  · rw [if_pos h1]; rfl
  · rw [if_neg h1, decide_eq_false (by omega)]; rfl
/-- What is left behind so many. -/
def szN (n : Nat) (l : Int) : Int := if l < (n : Int) then -1 else l - (n : Int)
theorem s_a4 : C_a4 (fun x => okLen (List.length x.1) && inq x.2.1 0 1048576) (fun x => (szN (List.length x.1) x.2.1, ())) := S_a4 fun x hx => ⟨0, (ev_a4 0 x.1 x.2.1).trans (by
  have h := Bool.and_eq_true_iff.1 hx
  have h2 := Qak.1 h.2
  exact p_szLen _ _ (Qat.1 h.1) h2.1 h2.2)⟩
theorem s_a5 : C_a5 (fun x => okLen (List.length x.1.2.2.2.2) && inq x.2.1 0 1048576) (fun x => (szN (List.length x.1.2.2.2.2) x.2.1, ())) := S_a5 s_a4 fun x hx => ⟨0, (ev_a5 0 x.1 x.2.1).trans (by
  have hx : (okLen (List.length x.1.2.2.2.2) && inq x.2.1 0 1048576) = true := hx
  simp only [hx, cond_true]
  exact p_szPass _ _ (Qak.1 (Bool.and_eq_true_iff.1 hx).2).1)⟩
theorem s_ai : C_ai (fun x => decide (List.length x.1 <= 4294967296)) (fun x => (x.1, ())) := S_ai s_ad fun x hx => ⟨List.length x.1 + 1, (ev_ai _ x.1).trans (by
  have hx : List.length x.1 <= 4294967296 := of_decide_eq_true hx
  rw [p_make hx]
  refine (Qb9 (α := MDec) x.1 (fun y => y) (fun k i out => r_ai (fun x => (x.1, ())) (x.1, ()) k pt0 (h0_ai x.1 (i : Int) out)) (fun k out ho => ?_) (fun k i y r out hd hi ho => ?_) _ ?_).trans ?_
  · rw [rd0_ai, Qad (Nat.le_refl _)]; rfl
  · rw [rd0_ai, Qaa hi, Qaa (ho.symm ▸ hi), Qae hi, Qaf (by omega), Int.toNat_natCast, Qab hd]; rfl
  · rw [List.length_replicate]; exact Int.toNat_natCast _
  · rw [List.map_id'])⟩
theorem s_aj : C_aj (fun x => decide (List.length x.1.2.2.2.2 <= 4294967296)) (fun x => (x.1, ())) := S_aj s_ae s_ad s_ai fun x hx => ⟨0, (ev_aj 0 x.1).trans (by
  have hx : decide (List.length x.1.2.2.2.2 <= 4294967296) = true := hx
  rw [hx]; rfl)⟩
theorem s_d6 : C_d6 (fun x => decide (List.length x.1 <= 4294967296)) (fun x => (same x.1 x.2.1, ())) := S_d6 s_d1 fun x hx => ⟨List.length x.1 + 1, (ev_d6 _ x.1 x.2.1).trans (p_eqS fun hl => by
  have hx : List.length x.1 <= 4294967296 := of_decide_eq_true hx
  refine Qb5 (α := MDec) x.1 x.2.1 hl (fun k i => r_d6 (fun x => (same x.1 x.2.1, ())) (x.1, x.2.1, ()) k pt0 (h0_d6 x.1 x.2.1 (i : Int))) (fun k => ?_) (fun k i y z r r' hd hd' hi hi' => ?_)
  · rw [rd0_d6, Qad (Nat.le_refl _)]; rfl
  · rw [rd0_d6, Qaa hi, Qaa hi', Qae hi, Qaf (by omega), Qab hd, Qab hd', Qas, Qb4]; rfl)⟩
theorem s_d7 : C_d7 (fun x => decide (List.length x.1.2.2.2.2 <= 4294967296)) (fun x => (same x.1 x.2.1, ())) := S_d7 s_d2 s_d1 s_d6 fun x hx => ⟨0, (ev_d7 0 x.1 x.2.1).trans (by
  have hx : decide (List.length x.1.2.2.2.2 <= 4294967296) = true := hx
  simp only [hx, cond_true, Qas, Qb4, Qbu, Qbv, Qb3, Qa3, Bool.and_true]
  refine congrArg (fun b => some (b, ())) ?_
  rw [Qap, Qap, Qap, Qap])⟩

theorem s_c8 : C_c8 (fun _ => true) (fun x => (inq x.1 1 5, ())) := S_c8 s_iin fun x _ => ⟨0, ev_c8 0 x.1⟩
end Go.Proofs.YtmbmoenjhfkgkaaGreat

set_option linter.unusedVariables false
set_option linter.unusedSimpArgs false
namespace Go.Proofs.YtmbmoenjhfkgkaaGreat
open Go.Vm

theorem Qj6 (a b : MAsk) : Sh.beq S_SpcTest a b = same a b := by
  show (decide (a.1 = b.1) && ((decide (a.2.1.1 = b.2.1.1) && decide (a.2.1.2 = b.2.1.2)) && ((decide (a.2.2.1.1 = b.2.2.1.1) && decide (a.2.2.1.2 = b.2.2.1.2)) && decide (a.2.2.2 = b.2.2.2)))) = _
  simp only [Qa3, Qap]
end Go.Proofs.YtmbmoenjhfkgkaaGreat

set_option linter.unusedVariables false
set_option linter.unusedSimpArgs false
namespace Go.Proofs.YtmbmoenjhfkgkaaGreat
open Go.Vm
theorem s_c9 : C_c9 (fun _ => true) (fun x => (signs x.1, ())) := S_c9 fun x _ => ⟨0, (ev_c9 0 x.1).trans (by
  have key : ∀ c : Int, (bif (decide (c = (2 : Int))) then (some (true, ())) else (some ((decide (c = (3 : Int))), ()))) = some (signs c, ()) := fun c => by
    unfold signs; cases decide (c = 2) <;> rfl
  exact key x.1)⟩
theorem s_ca : C_ca (fun _ => true) (fun x => (sigOk x.1, ())) := S_ca s_c8 s_c9 s_iin fun x _ => ⟨0, (ev_ca 0 x.1).trans (by
  have key : ∀ s : MSig, (bif inq s.1 1 5 then (bif signs s.2.1 then some (inq s.2.2 0 999982, ()) else some (false, ())) else some (false, ())) = some (sigOk s, ()) := fun s => by
    unfold sigOk; cases inq s.1 1 5 <;> cases signs s.2.1 <;> rfl
  exact key x.1)⟩
theorem s_cb : C_cb (fun _ => true) (fun x => (!sigOk x.1, ())) := S_cb s_ca fun x _ => ⟨0, (ev_cb 0 x.1).trans (by simp only [Qas])⟩
theorem s_ce : C_ce (fun _ => true) (fun x => (!passed x.1, ())) := S_ce fun x _ => ⟨0, (ev_ce 0 x.1).trans (by simp only [Qas]; rfl)⟩

theorem s_cc : C_cc (fun x => decide (List.length x.1 <= 4294967296)) (fun x => (idxOf (fun d : MSig => !sigOk d) x.1 0, ())) := S_cc s_cb fun x hx => ⟨List.length x.1 + 1, (ev_cc _ x.1 x.2.1).trans (by
  have hx : List.length x.1 <= 4294967296 := of_decide_eq_true hx
  refine Qbz (α := MSig) x.1 (fun d => !sigOk d) (fun k i => r_cc (fun x => (!sigOk x.1, ())) (fun _ => true) (x.1, x.2.1, ()) k pt1 (h0_cc x.1 x.2.1 (List.length x.1 : Int) (i : Int))) (fun k => ?_) (fun k i y r hd hi => ?_)
  · rw [rd0_cc, Qad (Nat.le_refl _)]; rfl
  · rw [rd0_cc, Qaa hi, Qae hi, Qaf (by omega), Qab hd]; rfl)⟩
theorem s_cd : C_cd (fun x => decide (List.length x.1 <= 4294967296)) (fun x => (List.any x.1 (fun d : MSig => !sigOk d), ())) := S_cd s_cc fun x hx => ⟨0, (ev_cd 0 x.1 x.2.1).trans (by
  have hx : decide (List.length x.1 <= 4294967296) = true := hx
  simp only [cl, hx, cond_true, Qbe])⟩
theorem s_cf : C_cf (fun x => decide (List.length x.1 <= 4294967296)) (fun x => (idxOf (fun d : MTst => !passed d) x.1 0, ())) := S_cf s_ce fun x hx => ⟨List.length x.1 + 1, (ev_cf _ x.1 x.2.1).trans (by
  have hx : List.length x.1 <= 4294967296 := of_decide_eq_true hx
  refine Qbz (α := MTst) x.1 (fun d => !passed d) (fun k i => r_cf (fun x => (!passed x.1, ())) (x.1, x.2.1, ()) k pt1 (h0_cf x.1 x.2.1 (List.length x.1 : Int) (i : Int))) (fun k => ?_) (fun k i y r hd hi => ?_)
  · rw [rd0_cf, Qad (Nat.le_refl _)]; rfl
  · rw [rd0_cf, Qaa hi, Qae hi, Qaf (by omega), Qab hd]; rfl)⟩
theorem s_cg : C_cg (fun x => decide (List.length x.1 <= 4294967296)) (fun x => (List.any x.1 (fun d : MTst => !passed d), ())) := S_cg s_cf fun x hx => ⟨0, (ev_cg 0 x.1 x.2.1).trans (by
  have hx : decide (List.length x.1 <= 4294967296) = true := hx
  simp only [cl, hx, cond_true, Qbe])⟩
theorem s_ch : C_ch (fun x => decide (List.length x.1 <= 4294967296)) (fun x => (idxOf (fun d : Bool => x.2.1 == d) x.1 0, ())) := S_ch fun x hx => ⟨List.length x.1 + 1, (ev_ch _ x.1 x.2.1).trans (by
  have hx : List.length x.1 <= 4294967296 := of_decide_eq_true hx
  refine Qbz (α := Bool) x.1 (fun d => x.2.1 == d) (fun k i => r_ch (x.1, x.2.1, ()) k pt1 (h0_ch x.1 x.2.1 (List.length x.1 : Int) (i : Int))) (fun k => ?_) (fun k i y r hd hi => ?_)
  · rw [rd0_ch, Qad (Nat.le_refl _)]; rfl
  · rw [rd0_ch, Qaa hi, Qae hi, Qaf (by omega), Qab hd]; rfl)⟩
theorem s_ci : C_ci (fun x => decide (List.length x.1 <= 4294967296)) (fun x => (List.any x.1 (fun d : Bool => x.2.1 == d), ())) := S_ci s_ch fun x hx => ⟨0, (ev_ci 0 x.1 x.2.1).trans (by
  have hx : decide (List.length x.1 <= 4294967296) = true := hx
  simp only [cl, hx, cond_true, Qbe])⟩
theorem s_cj : C_cj (fun x => mixPre x.1 x.2.1) (fun x => (mixes x.1 x.2.1, ())) := S_cj fun x hx => by
  obtain ⟨m, l, u⟩ := x
  change List Int at l
  obtain ⟨h1, h2⟩ := Qg3.1 hx
  have h2 : List.length l <= 4294967296 := h2
  refine ⟨List.length l + 1, (ev_cj _ m l).trans ?_⟩
  have := Qa1 (σ := Int) l (fun k i c => r_cj (m, l, ()) k pt1 (h0_cj m l c (List.length l : Int) (i : Int))) (fun r i c => (mixes c r, ())) (fun i c => mkR c) (fun k c hc => by
    rw [rd0_cj, Qad (Nat.le_refl _)]; rfl) (fun k i y r c hd hi hc => by
    refine .inr ⟨mix c y, mix_r hc, ?_, rfl⟩
    rw [rd0_cj, Qaa hi, Qae hi, Qaf (by omega), Qab hd, mix_w hc]; rfl) l.length 0 m (by omega) h1
  simpa using this
theorem Ql5 {m : Int} {l : List Int} (h : mkR m) (hl : l.length <= 4) : mixPre m l = true := Qg3.2 ⟨h, by omega⟩
theorem Qee : ∀ (l : List MDec) (i : Nat) (m : Int), foldI (fun _ m (v : MDec) => mix (mix m v.1) v.2) i m l = markMore m l
  | [], i, m => rfl
  | v :: r, i, m => Qee r (i + 1) _
theorem Qey : ∀ (l : List MTst) (i : Nat) (m : Int), foldI (fun _ m t => markTst m t) i m l = markTsts m l
  | [], i, m => rfl
  | v :: r, i, m => Qey r (i + 1) _
theorem Qez : ∀ (l : List Bool) (i : Nat) (m : Int), foldI (fun i m d => markDev m i d) i m l = markDevs i m l
  | [], i, m => rfl
  | v :: r, i, m => Qez r (i + 1) _
theorem s_ck : C_ck (fun x => smB x.1) (fun x => (batMark x.1, ())) := S_ck s_cj fun x hx => by
  obtain ⟨b, u⟩ := x
  change MBat at b
  have hx : smB b = true := hx
  obtain ⟨h1, h2, h3, h4⟩ := Qbg.1 hx
  refine WithFuel.eq ?_
  show WithFuel (fun k => E_ck (fun x => (mixes x.1 x.2.1, ())) (fun x => mixPre x.1 x.2.1) k (b, ())) _
  have ev := fun k => ev_ck (g_cj := fun x => (mixes x.1 x.2.1, ())) (p_cj := fun x => mixPre x.1 x.2.1) k b
  have hp := fun (m : Int) (l : List Int) (h : mkR m) (hl : l.length <= 4) => Ql5 h hl
  simp only [ev, cl, hp _ _ one_r (show List.length [b.1] <= 4 from Nat.le_of_ble_eq_true rfl), cond_true]
  refine Qcq b.2.2.1 (fun _ m t => markTst m t) mkR (fun k i m => r_ck (fun x => (mixes x.1 x.2.1, ())) (fun x => mixPre x.1 x.2.1) (b, ()) k pt0 (h0_ck b m (List.length b.2.2.1 : Int) (i : Int))) _ (fun i s x hs => Qh6 hs) (mix 1 b.1) (mix_r one_r) (fun hr => ?_) (fun i t r m hd hi hm hk => ?_)
  · rw [Qey] at hr ⊢
    have hdev := Qcq (P := fun v => v = (batMark b, ())) b.2.2.2.2.2 (fun i m d => markDev m i d) mkR (fun k i m => r_ck (fun x => (mixes x.1 x.2.1, ())) (fun x => mixPre x.1 x.2.1) (b, ()) k pt2 (h2_ck b m (List.length b.2.2.2.2.2 : Int) (i : Int))) (fun i s x hs => Qh7 hs) (markTsts (mix 1 b.1) b.2.2.1) hr (fun hr => ?_) (fun i d r m hd hi hm hk => ?_)
    · obtain ⟨k, hk⟩ := hdev
      refine ⟨k + 1, ?_⟩
      dsimp only
      rw [rd0_ck, lt_eq, Qad (Nat.le_refl _)]
      exact hk
    · rw [Qez]
      refine Qh8 1 ?_
      dsimp only
      rw [rd2_ck, Qad (Nat.le_refl _)]; rfl
    · obtain ⟨k, v, hk, hv⟩ := hk
      refine ⟨k + 1, v, ?_, hv⟩
      dsimp only
      rw [rd2_ck, Qaa hi, Qae hi, Qaf (by omega), Qab hd]
      have g1 := hp m [((i + 1 : Nat) : Int)] hm (Nat.le_of_ble_eq_true rfl)
      have g2 := hp (mix m ((i + 1 : Nat) : Int)) [77] (mix_r hm) (Nat.le_of_ble_eq_true rfl)
      have g2' : mixPre (mixes m [((i + 1 : Nat) : Int)]) [77] = true := g2
      simp only [cl, g1, g2', cond_true]
      cases d
      · exact hk
      · exact hk
  · have hmore := Qcq (P := fun v => v = (batMark b, ())) t.2.2.2.2 (fun _ m (v : MDec) => mix (mix m v.1) v.2) mkR (fun k j m => r_ck (fun x => (mixes x.1 x.2.1, ())) (fun x => mixPre x.1 x.2.1) (b, ()) k pt5 (h1_ck b m (List.length b.2.2.1 : Int) (i : Int) t.2.2.2.2 (List.length t.2.2.2.2 : Int) (j : Int))) (fun i s x hs => mix_r (mix_r hs)) (markHead m t) (Qew hm) (fun hr => ?_) (fun j v r' m' hd' hj hm' hk' => ?_)
    · obtain ⟨k, v, hk, hv⟩ := hmore
      refine ⟨k + 1, v, ?_, hv⟩
      dsimp only
      rw [rd0_ck, lt_eq, Qaa hi, Qae hi, Qab hd]
      have g1 := hp m [t.2.1, t.2.2.1.1, t.2.2.1.2, t.2.2.2.1] hm (Nat.le_of_ble_eq_true rfl)
      simp only [cl, g1, cond_true]
      exact hk
    · rw [Qee]
      obtain ⟨k, v, hk, hv⟩ := hk
      refine ⟨k + 1, v, ?_, hv⟩
      dsimp only
      rw [rd1_ck, Qad (Nat.le_refl _), Qaf (i := i) (by omega)]
      exact hk
    · obtain ⟨k, v', hk, hv⟩ := hk'
      refine ⟨k + 1, v', ?_, hv⟩
      have hlt : List.length t.2.2.2.2 <= 4294967296 := h2 t (Qau hd)
      dsimp only
      rw [rd1_ck, Qaa hj, Qae hj, Qaf (by omega), Qab hd']
      have g1 := hp m' [v.1, v.2] hm' (Nat.le_of_ble_eq_true rfl)
      simp only [cl, g1, cond_true]
      exact hk
theorem s_cl : C_cl (fun x => smB x.1) (fun x => (batSigned x.1 x.2.1 x.2.2.1, ())) := S_cl s_ck fun x hx => ⟨List.length x.1.2.2.2.2.1 + 1, (ev_cl _ x.1 x.2.1 x.2.2.1).trans (by
  obtain ⟨b, role, but, u⟩ := x
  change MBat at b
  have hx : smB b = true := hx
  have h3 := (Qbg.1 hx).2.2.1
  simp only [cl, hx, cond_true]
  have := Qa1 (σ := Unit) b.2.2.2.2.1 (fun k i _ => r_cl (fun x => (batMark x.1, ())) (fun x => smB x.1) (b, role, but, ()) k pt0 (h0_cl b role but (batMark b) (List.length b.2.2.2.2.1 : Int) (i : Int))) (fun r i _ => (signedBy (batMark b) role but r, ())) (fun _ _ => True) (fun k s _ => by
    rw [rd0_cl, Qad (Nat.le_refl _)]; rfl) (fun k i y r s hd hi _ => by
    rw [rd0_cl, Qaa hi, Qae hi, Qaf (by omega), Qab hd]
    have e : signedBy (batMark b) role but (y :: r) = bif decide (y.2.1 = role) && (decide (y.2.2 = batMark b) && !decide (y.1 = but)) then y.1 else signedBy (batMark b) role but r := rfl
    rw [e]
    cases decide (y.2.1 = role)
    · exact .inr ⟨(), trivial, rfl, rfl⟩
    · cases decide (y.2.2 = batMark b)
      · exact .inr ⟨(), trivial, rfl, rfl⟩
      · cases decide (y.1 = but)
        · exact .inl rfl
        · exact .inr ⟨(), trivial, rfl, rfl⟩) b.2.2.2.2.1.length 0 () (by omega) trivial
  rw [List.drop_zero] at this
  exact this)⟩
theorem s_cm : C_cm (fun x => smB x.2.2.1) (fun x => (decide (x.1.2.1 = 2) && (decide (x.1.2.2 = x.2.1) && decide (0 < batSigned x.2.2.1 3 x.1.1)), ())) := S_cm s_cl fun x hx => ⟨0, (ev_cm 0 x.1 x.2.1 x.2.2.1).trans (by
  have hx : smB x.2.2.1 = true := hx
  simp only [cl, hx, cond_true]
  have key : ∀ a b c : Bool, (bif a then (bif b then some (c, ()) else some (false, ())) else some (false, ())) = some (a && (b && c), ()) := by intro a b c; cases a <;> cases b <;> rfl
  exact key _ _ _)⟩
theorem s_cn : C_cn (fun x => decide (List.length x.1 <= 4294967296) && smB x.2.1.2.1) (fun x => (idxOf (fun s : MSig => decide (s.2.1 = 2) && (decide (s.2.2 = x.2.1.1) && decide (0 < batSigned x.2.1.2.1 3 s.1))) x.1 0, ())) := S_cn s_cm fun x hx => ⟨List.length x.1 + 1, (ev_cn _ x.1 x.2.1).trans (by
  obtain ⟨hx, hb⟩ := Bool.and_eq_true_iff.1 hx
  have hx : List.length x.1 <= 4294967296 := of_decide_eq_true hx
  refine Qbz (α := MSig) x.1 (fun s : MSig => decide (s.2.1 = 2) && (decide (s.2.2 = x.2.1.1) && decide (0 < batSigned x.2.1.2.1 3 s.1))) (fun k i => r_cn (fun x => (decide (x.1.2.1 = 2) && (decide (x.1.2.2 = x.2.1) && decide (0 < batSigned x.2.2.1 3 x.1.1)), ())) (fun x => smB x.2.2.1) (x.1, x.2.1, ()) k pt1 (h0_cn x.1 x.2.1 (List.length x.1 : Int) (i : Int))) (fun k => ?_) (fun k i y r hd hi => ?_)
  · rw [rd0_cn, Qad (Nat.le_refl _)]; rfl
  · rw [rd0_cn, Qaa hi, Qae hi, Qaf (by omega), Qab hd]
    simp only [cl, hb, cond_true])⟩
theorem s_co : C_co (fun x => decide (List.length x.1 <= 4294967296) && smB x.2.1.2.1) (fun x => (List.any x.1 (fun s : MSig => decide (s.2.1 = 2) && (decide (s.2.2 = x.2.1.1) && decide (0 < batSigned x.2.1.2.1 3 s.1))), ())) := S_co s_cn fun x hx => ⟨0, (ev_co 0 x.1 x.2.1).trans (by
  have hx : (decide (List.length x.1 <= 4294967296) && smB x.2.1.2.1) = true := hx
  simp only [cl, hx, cond_true, Qbe])⟩
theorem s_cp : C_cp (fun x => smB x.1) (fun x => (gate x.1, ())) := S_cp s_cg s_ci s_ck s_co fun x hx => ⟨0, (ev_cp 0 x.1).trans (by
  have hx : smB x.1 = true := hx
  obtain ⟨h1, h2, h3, h4⟩ := Qbg.1 (show smB _ = true from hx)
  have h1 : decide (List.length x.1.2.2.1 <= 4294967296) = true := decide_eq_true h1
  have h3 : decide (List.length x.1.2.2.2.2.1 <= 4294967296) = true := decide_eq_true h3
  have h4 : decide (List.length x.1.2.2.2.2.2 <= 4294967296) = true := decide_eq_true h4
  simp only [cl, hx, h1, h3, h4, cond_true, Bool.and_self]
  unfold gate shutAll hands
  have e1 : (!(List.any x.1.2.2.1 fun d : MTst => !passed d)) = List.all x.1.2.2.1 passed := Qbf _ _
  have e2 : (!(List.any x.1.2.2.2.2.2 fun d : Bool => true == d)) = List.all x.1.2.2.2.2.2 (!·) := by
    rw [<- Qbf (fun d : Bool => !d)]
    congr 2
    funext d; cases d <;> rfl
  rw [<- e1, <- e2]
  cases (List.any x.1.2.2.1 fun d : MTst => !passed d) <;> cases (List.any x.1.2.2.2.2.2 fun d : Bool => true == d) <;> rfl)⟩
theorem s_cq : C_cq (fun x => smB x.1) (fun x => (batOk x.1, ())) := S_cq s_iin s_c7 s_cd s_cp fun x hx => by
  obtain ⟨b, u⟩ := x
  change MBat at b
  have hx : smB b = true := hx
  obtain ⟨h1, h2, h3, h4⟩ := Qbg.1 (show smB _ = true from hx)
  have key : ∃ k, r_cq (fun x => (inq x.1 x.2.1 x.2.2.1, ())) (fun x => (tstOk x.1, ())) (fun x => decide (List.length x.1.2.2.2.2 <= 4294967296)) (fun x => (List.any x.1 (fun d : MSig => !sigOk d), ())) (fun x => decide (List.length x.1 <= 4294967296)) (fun x => (gate x.1, ())) (fun x => smB x.1) (b, ()) k pt0 (h0_cq b (List.length b.2.2.1 : Int) (0 : Int)) =
      some (riseL tstOk (fun t => t.1.1) none b.2.2.1 && (decide (b.2.2.2.2.1.length <= 6) && (b.2.2.2.2.1.all sigOk && (decide (b.2.2.2.2.2.length <= 3) && (!freed b.2.2.2.1 || gate b)))), ()) := by
    refine Qh9 tstOk (fun t : MTst => t.1.1) b.2.2.1 _ (fun k i => r_cq (fun x => (inq x.1 x.2.1 x.2.2.1, ())) (fun x => (tstOk x.1, ())) (fun x => decide (List.length x.1.2.2.2.2 <= 4294967296)) (fun x => (List.any x.1 (fun d : MSig => !sigOk d), ())) (fun x => decide (List.length x.1 <= 4294967296)) (fun x => (gate x.1, ())) (fun x => smB x.1) (b, ()) k pt0 (h0_cq b (List.length b.2.2.1 : Int) (i : Int))) (fun _ => ⟨1, ?_⟩) (fun k i t r hd hi => ?_)
    · rw [rd0_cq, lt_eq, lt_eq, Qad (Nat.le_refl _)]
      have h3' : decide (List.length b.2.2.2.2.1 <= 4294967296) = true := decide_eq_true h3
      simp only [cl, hx, h3', cond_true, cond_false]
      have e1 : (!(List.any b.2.2.2.2.1 fun d : MSig => !sigOk d)) = List.all b.2.2.2.2.1 sigOk := Qbf _ _
      rw [<- e1]
      have d1 : decide (b.2.2.2.2.1.length <= 6) = !decide ((6 : Int) < (List.length b.2.2.2.2.1 : Int)) := by
        by_cases h : b.2.2.2.2.1.length <= 6
        · rw [decide_eq_true h, decide_eq_false (by omega)]; rfl
        · rw [decide_eq_false h, decide_eq_true (by omega)]; rfl
      have d2 : decide (b.2.2.2.2.2.length <= 3) = !decide ((3 : Int) < (List.length b.2.2.2.2.2 : Int)) := by
        by_cases h : b.2.2.2.2.2.length <= 3
        · rw [decide_eq_true h, decide_eq_false (by omega)]; rfl
        · rw [decide_eq_false h, decide_eq_true (by omega)]; rfl
      rw [d1, d2]
      unfold freed
      cases decide ((6 : Int) < (List.length b.2.2.2.2.1 : Int))
      · cases (List.any b.2.2.2.2.1 fun d : MSig => !sigOk d)
        · cases decide ((3 : Int) < (List.length b.2.2.2.2.2 : Int))
          · cases decide (b.2.2.2.1 = 2) <;> cases decide (b.2.2.2.1 = 4) <;> cases gate b <;> rfl
          · rfl
        · rfl
      · rfl
    · rw [rd0_cq, lt_eq, lt_eq, Qaa hi, Qae hi, Qaf (by omega)]
      have hp : decide (List.length (rdL (e := S_TstTest) b.2.2.1 (i : Int)).2.2.2.2 <= 4294967296) = true := by
        rw [Qab hd]; exact decide_eq_true (h2 t (Qau hd))
      simp only [cl, hp, cond_true]
      exact Qia tstOk (fun t : MTst => t.1.1) h1 hd hi _ (fun j => rdL (e := S_TstTest) b.2.2.1 j) (fun j hj => Qfl j hj)
  obtain ⟨k, hk⟩ := key
  refine ⟨k, (ev_cq k b).trans ?_⟩
  unfold batOk batOkA tstsOk
  simp only [hk]
  cases inq b.1 0 5
  · rfl
  · cases inq b.2.1 1 10000
    · rfl
    · cases inq (List.length b.2.2.1 : Int) 1 4
      · rfl
      · cases inq b.2.2.2.1 1 4
        · rfl
        · simp only [Bool.true_and, Bool.and_assoc]; rfl
end Go.Proofs.YtmbmoenjhfkgkaaGreat

set_option linter.unusedVariables false
set_option linter.unusedSimpArgs false
namespace Go.Proofs.YtmbmoenjhfkgkaaGreat
open Go.Vm
def one1 (w : ByteArray) : Bool := decide (w.data.toList.length = 1)
end Go.Proofs.YtmbmoenjhfkgkaaGreat

set_option linter.unusedVariables false
set_option linter.unusedSimpArgs false
namespace Go.Proofs.YtmbmoenjhfkgkaaGreat
open Go.Vm
theorem s_b7 : C_b7 (fun _ => true) (fun x => (mixW x.1 x.2.1, ())) := S_b7 fun x _ => ⟨0, ev_b7 0 x.1 x.2.1⟩
theorem s_b8 : C_b8 (fun x => smB x.1) (fun x => (batMark x.1, ())) := S_b8 s_b7 fun x hx => by
  obtain ⟨b, u⟩ := x
  change MBat at b
  have hx : smB b = true := hx
  obtain ⟨h1, h2, h3, h4⟩ := Qbg.1 hx
  refine WithFuel.eq ?_
  show WithFuel (fun k => E_b8 (fun x => (mixW x.1 x.2.1, ())) k (b, ())) _
  have ev := fun k => ev_b8 (g_b7 := fun x => (mixW x.1 x.2.1, ())) k b
  simp only [ev, Qce one_r]
  refine Qcq b.2.2.1 (fun _ m t => markTst m t) mkR (fun k i m => r_b8 (fun x => (mixW x.1 x.2.1, ())) (b, ()) k pt0 (h0_b8 b m (i : Int))) _ (fun i s x hs => Qh6 hs) (mix 1 b.1) (mix_r one_r) (fun hr => ?_) (fun i t r m hd hi hm hk => ?_)
  · rw [Qey] at hr ⊢
    have hdev := Qcq (P := fun v => v = (batMark b, ())) b.2.2.2.2.2 (fun i m d => markDev m i d) mkR (fun k i m => r_b8 (fun x => (mixW x.1 x.2.1, ())) (b, ()) k pt2 (h2_b8 b m (i : Int))) (fun i s x hs => Qh7 hs) (markTsts (mix 1 b.1) b.2.2.1) hr (fun hr => ?_) (fun i d r m hd hi hm hk => ?_)
    · obtain ⟨k, hk⟩ := hdev
      refine ⟨k + 1, ?_⟩
      dsimp only
      rw [rd0_b8, Qad (Nat.le_refl _)]
      exact hk
    · rw [Qez]
      refine Qh8 1 ?_
      dsimp only
      rw [rd2_b8, Qad (Nat.le_refl _)]; rfl
    · obtain ⟨k, v, hk, hv⟩ := hk
      refine ⟨k + 1, v, ?_, hv⟩
      dsimp only
      rw [rd2_b8, Qaa hi, Qae hi, Qaf (by omega), Qab hd]
      simp only [Qce hm, Qce (mix_r hm), cond_true]
      cases d
      · exact hk
      · exact hk
  · have hmore := Qcq (P := fun v => v = (batMark b, ())) t.2.2.2.2 (fun _ m (v : MDec) => mix (mix m v.1) v.2) mkR (fun k j m => r_b8 (fun x => (mixW x.1 x.2.1, ())) (b, ()) k pt4 (h1_b8 b m (i : Int) (j : Int) t)) (fun i s x hs => mix_r (mix_r hs)) (markHead m t) (Qew hm) (fun hr => ?_) (fun j v r' m' hd' hj hm' hk' => ?_)
    · obtain ⟨k, v, hk, hv⟩ := hmore
      refine ⟨k + 1, v, ?_, hv⟩
      dsimp only
      rw [rd0_b8, Qaa hi, Qae hi, Qab hd]
      simp only [Qce hm, Qce (mix_r hm), Qce (mix_r (mix_r hm)), Qce (mix_r (mix_r (mix_r hm))), cond_true]
      exact hk
    · rw [Qee]
      obtain ⟨k, v, hk, hv⟩ := hk
      refine ⟨k + 1, v, ?_, hv⟩
      dsimp only
      rw [rd1_b8, Qad (Nat.le_refl _), Qaf (i := i) (by omega)]
      exact hk
    · obtain ⟨k, v', hk, hv⟩ := hk'
      refine ⟨k + 1, v', ?_, hv⟩
      have hlt : List.length t.2.2.2.2 <= 4294967296 := h2 t (Qau hd)
      dsimp only
      rw [rd1_b8, Qaa hj, Qae hj, Qaf (i := j) (by omega), Qab hd']
      simp only [Qce hm', Qce (mix_r hm'), cond_true]
      exact hk
theorem s_b9 : C_b9 (fun x => smB x.1) (fun x => (batSigned x.1 x.2.1 x.2.2.1, ())) := S_b9 s_b8 fun x hx => ⟨List.length x.1.2.2.2.2.1 + 1, (ev_b9 _ x.1 x.2.1 x.2.2.1).trans (by
  obtain ⟨b, role, but, u⟩ := x
  change MBat at b
  have hx : smB b = true := hx
  have h3 := (Qbg.1 hx).2.2.1
  have := Qa1 (σ := Unit) b.2.2.2.2.1 (fun k i _ => r_b9 (fun x => (batMark x.1, ())) (fun x => smB x.1) (b, role, but, ()) k pt1 (h0_b9 b role but (i : Int))) (fun r i _ => (signedBy (batMark b) role but r, ())) (fun _ _ => True) (fun k s _ => by
    rw [rd0_b9, Qad (Nat.le_refl _)]; rfl) (fun k i y r s hd hi _ => by
    have h0i : decide ((0 : Int) <= (i : Int)) = true := decide_eq_true (by omega)
    rw [rd0_b9, Qaf (by omega), Qab hd]
    simp only [cl, hx, h0i, Qae hi, cond_true]
    have e : signedBy (batMark b) role but (y :: r) = bif decide (y.2.1 = role) && (decide (y.2.2 = batMark b) && !decide (y.1 = but)) then y.1 else signedBy (batMark b) role but r := rfl
    rw [e]
    cases decide (y.2.1 = role)
    · exact .inr ⟨(), trivial, rfl, rfl⟩
    · cases decide (y.1 = but)
      · cases decide (y.2.2 = batMark b)
        · exact .inr ⟨(), trivial, rfl, rfl⟩
        · exact .inl rfl
      · cases decide (y.2.2 = batMark b)
        · exact .inr ⟨(), trivial, rfl, rfl⟩
        · exact .inr ⟨(), trivial, rfl, rfl⟩) b.2.2.2.2.1.length 0 () (by omega) trivial
  rw [List.drop_zero] at this
  exact this)⟩
theorem s_ba : C_ba (fun x => smB x.1 && sigsOk x.1) (fun x => (hands x.1, ())) := S_ba s_b8 s_b9 fun x hx => by
  obtain ⟨b, u⟩ := x
  change MBat at b
  obtain ⟨hx, hs⟩ := Bool.and_eq_true_iff.1 hx
  have hx : smB b = true := hx
  have hs : sigsOk b = true := hs
  have h3 := (Qbg.1 hx).2.2.1
  have go : ∀ (m : Nat) (u : Int), 1 <= u -> u + m = 6 -> ∃ k, r_ba (fun x => (batMark x.1, ())) (fun x => smB x.1) (fun x => (batSigned x.1 x.2.1 x.2.2.1, ())) (fun x => smB x.1) (b, ()) k pt1 (h0_ba b u) = some (b.2.2.2.2.1.any (fun s => decide (u <= s.1) && (decide (s.1 <= 5) && hand1 b s)), ()) := by
    intro m
    induction m with
    | zero =>
      intro u h1 h
      have : u = 6 := by omega
      subst this
      refine ⟨1, ?_⟩
      rw [rd0_ba, Qkz]; rfl
    | succ m ih =>
      intro u h1 h
      have hw : w64 (u + 1) = u + 1 := Qal (by omega) (by omega)
      obtain ⟨k, hk⟩ := ih (u + 1) (by omega) (by omega)
      obtain ⟨k, hk⟩ := Ql3 (α := MSig) b.2.2.2.2.1 (fun s => decide (s.1 = u) && hand1 b s) _ (fun k i => r_ba (fun x => (batMark x.1, ())) (fun x => smB x.1) (fun x => (batSigned x.1 x.2.1 x.2.2.1, ())) (fun x => smB x.1) (b, ()) k pt3 (h1_ba b u (i : Int))) ⟨k + 1, by rw [rd1_ba, Qad (Nat.le_refl _), hw]; exact hk⟩ (fun k i s r hd hi => by
        rw [rd1_ba, Qaa hi, Qae hi, Qaf (by omega), Qab hd]
        simp only [cl, hx, cond_true]
        unfold hand1
        by_cases e : s.1 = u
        · subst e
          rw [decide_eq_true rfl]
          cases decide (s.2.1 = 2)
          · rfl
          · cases decide (s.2.2 = batMark b)
            · rfl
            · cases decide (0 < batSigned b 3 s.1) <;> rfl
        · rw [decide_eq_false e]; rfl)
      refine ⟨k + 1, ?_⟩
      rw [rd0_ba, decide_eq_true (show u <= 5 by omega), <- Qky b (show u <= 5 by omega)]
      exact hk
  obtain ⟨k, hk⟩ := go 5 1 (Int.le_refl _) rfl
  exact ⟨k, (ev_ba k b).trans (by rw [hk, <- Qkx hs])⟩
theorem s_bb : C_bb (fun x => smB x.1 && sigsOk x.1) (fun x => (gate x.1, ())) := S_bb s_ba fun x hx => by
  obtain ⟨b, u⟩ := x
  change MBat at b
  have hx : (smB b && sigsOk b) = true := hx
  obtain ⟨h1, h2, h3, h4⟩ := Qbg.1 (Bool.and_eq_true_iff.1 hx).1
  obtain ⟨k, hk⟩ := Qcr (α := Bool) b.2.2.2.2.2 (!·) (hands b) (fun k i => r_bb (fun x => (hands x.1, ())) (fun x => smB x.1 && sigsOk x.1) (b, ()) k pt0 (h1_bb b (i : Int))) (fun _ => ⟨1, by
    rw [rd1_bb, Qad (Nat.le_refl _), cl_eq hx]; rfl⟩) (fun k i d r hd hi => by
    rw [rd1_bb, Qaa hi, Qae hi, Qaf (by omega), Qab hd]
    cases d <;> rfl)
  obtain ⟨k, hk⟩ := Qcr (α := MTst) b.2.2.1 passed _ (fun k i => r_bb (fun x => (hands x.1, ())) (fun x => smB x.1 && sigsOk x.1) (b, ()) k pt1 (h0_bb b (i : Int))) (fun _ => ⟨k + 1, by
    rw [rd0_bb, Qad (Nat.le_refl _)]; exact hk⟩) (fun k i t r hd hi => by
    rw [rd0_bb, Qaa hi, Qae hi, Qaf (by omega), Qab hd]
    unfold passed
    cases decide (t.2.1 = 3) <;> rfl)
  refine ⟨k, (ev_bb k b).trans (hk.trans ?_)⟩
  unfold gate shutAll
  rw [Bool.and_assoc]
theorem s_bc : C_bc (fun x => smB x.1) (fun x => (batOk x.1, ())) := S_bc s_ar s_b6 s_bb fun x hx => by
  obtain ⟨b, u⟩ := x
  change MBat at b
  have hx : smB b = true := hx
  obtain ⟨h1, h2, h3, h4⟩ := Qbg.1 hx
  have key : ∃ k, r_bc (fun x => (inq x.1 x.2.1 x.2.2.1, ())) (fun x => (tstOk x.1, ())) (fun x => (gate x.1, ())) (fun x => smB x.1 && sigsOk x.1) (b, ()) k pt0 (h0_bc b (0 : Int)) =
      some (riseL tstOk (fun t => t.1.1) none b.2.2.1 && (b.2.2.2.2.1.all sigOk && (!freed b.2.2.2.1 || gate b)), ()) := by
    refine Qh9 tstOk (fun t : MTst => t.1.1) b.2.2.1 _ (fun k i => r_bc (fun x => (inq x.1 x.2.1 x.2.2.1, ())) (fun x => (tstOk x.1, ())) (fun x => (gate x.1, ())) (fun x => smB x.1 && sigsOk x.1) (b, ()) k pt0 (h0_bc b (i : Int))) (fun _ => ?_) (fun k i t r hd hi => ?_)
    · obtain ⟨k, hk⟩ := Qcr (α := MSig) b.2.2.2.2.1 sigOk (!freed b.2.2.2.1 || gate b) (fun k i => r_bc (fun x => (inq x.1 x.2.1 x.2.2.1, ())) (fun x => (tstOk x.1, ())) (fun x => (gate x.1, ())) (fun x => smB x.1 && sigsOk x.1) (b, ()) k pt2 (h1_bc b (i : Int))) (fun hs => ⟨1, by
        have hp : (smB b && sigsOk b) = true := by rw [hx]; exact hs
        rw [rd1_bc, Qad (Nat.le_refl _)]
        simp only [cl, hp, cond_true, cond_false]
        unfold freed
        cases decide (b.2.2.2.1 = 2) <;> cases decide (b.2.2.2.1 = 4) <;> rfl⟩) (fun k i s r hd hi => by
        rw [rd1_bc, Qaa hi, Qae hi, Qaf (by omega), Qab hd]
        unfold sigOk signs
        simp only [cond_true]
        cases inq s.1 1 5
        · rfl
        · cases decide (s.2.1 = 2)
          · cases decide (s.2.1 = 3)
            · rfl
            · cases inq s.2.2 0 999982 <;> rfl
          · cases inq s.2.2 0 999982 <;> rfl)
      exact ⟨k + 1, by rw [rd0_bc, Qad (Nat.le_refl _)]; exact hk⟩
    · rw [rd0_bc, Qaa hi, Qae hi, Qaf (by omega)]
      exact Qia tstOk (fun t : MTst => t.1.1) h1 hd hi _ (fun j => rdL (e := S_TstTest) b.2.2.1 j) (fun j hj => Qfl j hj)
  obtain ⟨k, hk⟩ := key
  refine ⟨k, (ev_bc k b).trans ?_⟩
  have d1 : decide (b.2.2.2.2.1.length <= 6) = !decide ((6 : Int) < (List.length b.2.2.2.2.1 : Int)) := by
    by_cases h : b.2.2.2.2.1.length <= 6
    · rw [decide_eq_true h, decide_eq_false (by omega)]; rfl
    · rw [decide_eq_false h, decide_eq_true (by omega)]; rfl
  have d2 : decide (b.2.2.2.2.2.length <= 3) = !decide ((3 : Int) < (List.length b.2.2.2.2.2 : Int)) := by
    by_cases h : b.2.2.2.2.2.length <= 3
    · rw [decide_eq_true h, decide_eq_false (by omega)]; rfl
    · rw [decide_eq_false h, decide_eq_true (by omega)]; rfl
  show _ = some (batOk b, ())
  unfold batOk batOkA tstsOk
  rw [d1, d2]
  simp only [hk]
  cases inq b.1 0 5
  · rfl
  · cases inq b.2.1 1 10000
    · rfl
    · cases inq (List.length b.2.2.1 : Int) 1 4
      · rfl
      · cases inq b.2.2.2.1 1 4
        · rfl
        · cases decide ((6 : Int) < (List.length b.2.2.2.2.1 : Int))
          · cases decide ((3 : Int) < (List.length b.2.2.2.2.2 : Int))
            · simp only [Bool.true_and, Bool.and_true, Bool.and_assoc, Bool.not_false]; rfl
            · simp only [Bool.true_and, Bool.and_true, Bool.and_false, Bool.false_and, Bool.not_true]; rfl
          · simp only [Bool.true_and, Bool.and_true, Bool.and_false, Bool.false_and, Bool.not_true]; rfl
end Go.Proofs.YtmbmoenjhfkgkaaGreat

set_option linter.unusedVariables false
set_option linter.unusedSimpArgs false
namespace Go.Proofs.YtmbmoenjhfkgkaaGreat
open Go.Vm
theorem s_bg : C_bg (fun _ => true) (fun x => (!inq x.1 1 4, ())) := S_bg s_iin fun x _ => ⟨0, (ev_bg 0 x.1).trans (by simp only [Qas])⟩

theorem s_bh : C_bh (fun x => decide (List.length x.1 <= 4294967296)) (fun x => (idxOf (fun d : Int => !inq d 1 4) x.1 0, ())) := S_bh s_bg fun x hx => ⟨List.length x.1 + 1, (ev_bh _ x.1 x.2.1).trans (by
  have hx : List.length x.1 <= 4294967296 := of_decide_eq_true hx
  refine Qbz (α := Int) x.1 (fun d => !inq d 1 4) (fun k i => r_bh (fun x => (!inq x.1 1 4, ())) (x.1, x.2.1, ()) k pt1 (h0_bh x.1 x.2.1 (List.length x.1 : Int) (i : Int))) (fun k => ?_) (fun k i y r hd hi => ?_)
  · rw [rd0_bh, Qad (Nat.le_refl _)]; rfl
  · rw [rd0_bh, Qaa hi, Qae hi, Qaf (by omega), Qab hd]; rfl)⟩
theorem s_bi : C_bi (fun x => decide (List.length x.1 <= 4294967296)) (fun x => (List.any x.1 (fun d : Int => !inq d 1 4), ())) := S_bi s_bh fun x hx => ⟨0, (ev_bi 0 x.1 x.2.1).trans (by
  have hx : (decide (List.length x.1 <= 4294967296)) = true := hx
  simp only [cl, hx, cond_true, Qbe])⟩
theorem s_bj : C_bj (fun x => decide (List.length x.1 <= 4294967296)) (fun x => (rolesOk x.1, ())) := S_bj s_iin s_bi fun x hx => ⟨0, (ev_bj 0 x.1).trans (by
  obtain ⟨l, u⟩ := x
  change List Int at l
  have hx : decide (List.length l <= 4294967296) = true := hx
  have e1 : (!(List.any l fun d : Int => !inq d 1 4)) = List.all l (fun d => inq d 1 4) := Qbf _ _
  show _ = some (rolesOk l, ())
  unfold rolesOk
  simp only [cl, hx, cond_true, Qas]
  rw [e1]
  cases inq (List.length l : Int) 1 5 <;> rfl)⟩
theorem s_cr : C_cr (fun x => decide (List.length x.1 <= 4294967296)) (fun x => (same x.1 x.2.1, ())) := S_cr fun x hx => ⟨List.length x.1 + 1, (ev_cr _ x.1 x.2.1).trans (by
  have hx : List.length x.1 <= 4294967296 := of_decide_eq_true hx
  by_cases hl : List.length x.1 = List.length x.2.1
  · have el : (List.length x.1 : Int) = (List.length x.2.1 : Int) := by omega
    rw [decide_eq_true el]
    refine Qb5 (α := MAsk) x.1 x.2.1 hl (fun k i => r_cr (x.1, x.2.1, ()) k pt0 (h0_cr x.1 x.2.1 (List.length x.1 : Int) (i : Int))) (fun k => ?_) (fun k i a b r r' hd hd' hi hi' => ?_)
    · rw [rd0_cr, Qad (Nat.le_refl _)]; rfl
    · rw [rd0_cr, Qaa hi, Qaa hi', Qae hi, Qaf (by omega), Qab hd, Qab hd', Qj6]
      cases same a b <;> rfl
  · rw [decide_eq_false (by omega), Qdi (fun e => hl (congrArg List.length e))]; rfl)⟩
theorem Qjh {ro : List Int} {s : MSig} (hr : ro.length <= 4294967296) (hs : sigOk s = true) (hl : ¬ (List.length ro : Int) < s.1) : w64 (s.1 - 1) = s.1 - 1 /\ (bif (decide ((0 : Int) <= s.1 - 1)) then (decide (s.1 - 1 < (List.length ro : Int))) else false) = true /\ rdL (e := I) ro (s.1 - 1) = ro.getD (s.1 - 1).toNat 0 := by
  have h := (Qib.1 hs).1
  refine ⟨Qal (by omega) (by omega), ?_, rfl⟩
  rw [decide_eq_true (show (0 : Int) <= s.1 - 1 by omega)]
  exact decide_eq_true (by omega)
theorem s_cs : C_cs (fun x => sigOk x.1 && decide (List.length x.2.1.1 <= 4294967296)) (fun x => (!sigIn x.2.1.1 x.1, ())) := S_cs fun x hx => ⟨0, (ev_cs 0 x.1 x.2.1).trans (by
  obtain ⟨s, h, u⟩ := x
  change MSig at s
  change MHou at h
  obtain ⟨h1, h2⟩ := Bool.and_eq_true_iff.1 hx
  have h1 : sigOk s = true := h1
  have h2 : List.length h.1 <= 4294967296 := of_decide_eq_true h2
  show _ = some (!sigIn h.1 s, ())
  unfold sigIn
  by_cases hl : (List.length h.1 : Int) < s.1
  · rw [decide_eq_true hl, decide_eq_false (show ¬ s.1 <= (h.1.length : Int) by omega)]; rfl
  · obtain ⟨e1, e2, e3⟩ := Qjh h2 h1 hl
    rw [e1, e2, e3, decide_eq_false hl, decide_eq_true (show s.1 <= (h.1.length : Int) by omega)]
    cases decide (h.1.getD (s.1 - 1).toNat 0 = s.2.1) <;> rfl)⟩
theorem s_ct : C_ct (fun x => decide (List.length x.1 <= 4294967296) && (decide (List.length x.2.1.1.1 <= 4294967296) && List.all x.1 sigOk)) (fun x => (idxOf (fun d : MSig => !sigIn x.2.1.1.1 d) x.1 0, ())) := S_ct s_cs fun x hx => ⟨List.length x.1 + 1, (ev_ct _ x.1 x.2.1).trans (by
  obtain ⟨hx, hx2⟩ := Bool.and_eq_true_iff.1 hx
  obtain ⟨hx2, hx3⟩ := Bool.and_eq_true_iff.1 hx2
  have hx : List.length x.1 <= 4294967296 := of_decide_eq_true hx
  refine Qbz (α := MSig) x.1 (fun d => !sigIn x.2.1.1.1 d) (fun k i => r_ct (fun x => (!sigIn x.2.1.1 x.1, ())) (fun x => sigOk x.1 && decide (List.length x.2.1.1 <= 4294967296)) (x.1, x.2.1, ()) k pt1 (h0_ct x.1 x.2.1 (List.length x.1 : Int) (i : Int))) (fun k => ?_) (fun k i y r hd hi => ?_)
  · rw [rd0_ct, Qad (Nat.le_refl _)]; rfl
  · rw [rd0_ct, Qaa hi, Qae hi, Qaf (by omega), Qab hd]
    have hs : sigOk y = true := List.all_eq_true.1 hx3 y (Qau hd)
    simp only [cl, hs, hx2, cond_true, Bool.and_self])⟩
theorem s_cu : C_cu (fun x => decide (List.length x.1 <= 4294967296) && (decide (List.length x.2.1.1.1 <= 4294967296) && List.all x.1 sigOk)) (fun x => (List.any x.1 (fun d : MSig => !sigIn x.2.1.1.1 d), ())) := S_cu s_ct fun x hx => ⟨0, (ev_cu 0 x.1 x.2.1).trans (by
  have hx : (decide (List.length x.1 <= 4294967296) && (decide (List.length x.2.1.1.1 <= 4294967296) && List.all x.1 sigOk)) = true := hx
  simp only [cl, hx, cond_true, Qbe])⟩
theorem s_cv : C_cv (fun x => houSm x.1 && smB x.2.1) (fun x => (batIn x.1.1 x.1.2.1 x.2.1, ())) := S_cv s_cq s_cr s_cu fun x hx => by
  obtain ⟨h, b, u⟩ := x
  change MHou at h
  change MBat at b
  obtain ⟨hh, hb⟩ := Bool.and_eq_true_iff.1 hx
  have hb : smB b = true := hb
  obtain ⟨h1, h2, h3, h4⟩ := Qdc.1 (show houSm h = true from hh)
  obtain ⟨b1, b2, b3, b4⟩ := Qbg.1 hb
  have h1' : decide (List.length h.1 <= 4294967296) = true := decide_eq_true h1
  have b3' : decide (List.length b.2.2.2.2.1 <= 4294967296) = true := decide_eq_true b3
  have ev := fun k => ev_cv (g_cq := fun x => (batOk x.1, ())) (p_cq := fun x => smB x.1) (g_cr := fun x => (same x.1 x.2.1, ())) (p_cr := fun x => decide (List.length x.1 <= 4294967296)) (g_cu := fun x => (List.any x.1 (fun d : MSig => !sigIn x.2.1.1.1 d), ())) (p_cu := fun x => decide (List.length x.1 <= 4294967296) && (decide (List.length x.2.1.1.1 <= 4294967296) && List.all x.1 sigOk)) k h b
  show ∃ k, E_cv _ _ _ _ _ _ k (h, b, ()) = some (batIn h.1 h.2.1 b, ())
  simp only [ev, cl, hb, cond_true]
  unfold batIn
  cases hok : batOk b
  · exact ⟨0, rfl⟩
  · obtain ⟨⟨g1, _, _, _, _, _, g7, _⟩, _⟩ := Qic.1 hok
    have g7 : List.all b.2.2.2.2.1 sigOk = true := g7
    by_cases hs : (List.length h.2.1 : Int) <= b.1
    · refine ⟨0, ?_⟩
      rw [decide_eq_true hs, decide_eq_false (show ¬ b.1 < (h.2.1.length : Int) by omega)]; rfl
    · have hin : (bif (decide ((0 : Int) <= b.1)) then (decide (b.1 < (List.length h.2.1 : Int))) else false) = true := by
        rw [decide_eq_true g1.1]; exact decide_eq_true (by omega)
      have e : rdL (e := S_SpcSpec) h.2.1 b.1 = h.2.1.getD b.1.toNat spc0 := rfl
      rw [decide_eq_false hs, hin, decide_eq_true (show b.1 < (h.2.1.length : Int) by omega), e]
      cases decide ((h.2.1.getD b.1.toNat spc0).2 = 1)
      · have hlen : (b.2.2.1.map (·.1)).length <= 4294967296 := by rw [List.length_map]; exact b1
        have hlen' : decide (List.length (b.2.2.1.map (·.1)) <= 4294967296) = true := decide_eq_true hlen
        refine ⟨List.length b.2.2.1 + 1, ?_⟩
        have := Qa1 (σ := List MAsk) b.2.2.1 (fun f i l => r_cv (fun x => (batOk x.1, ())) (fun x => smB x.1) (fun x => (same x.1 x.2.1, ())) (fun x => decide (List.length x.1 <= 4294967296)) (fun x => (List.any x.1 (fun d : MSig => !sigIn x.2.1.1.1 d), ())) (fun x => decide (List.length x.1 <= 4294967296) && (decide (List.length x.2.1.1.1 <= 4294967296) && List.all x.1 sigOk)) (h, b, ()) f pt2 (h0_cv h b (List.length b.2.2.1 : Int) (i : Int) l)) (fun r i l => (same (b.2.2.1.map (·.1)) (h.2.1.getD b.1.toNat spc0).1 && b.2.2.2.2.1.all (sigIn h.1), ())) (fun i l => l = (b.2.2.1.take i).map (·.1)) (fun f s hs => by
          rw [List.take_length] at hs
          have hs : s = b.2.2.1.map (·.1) := hs
          subst hs
          rw [rd0_cv, Qad (Nat.le_refl _), hin, e]
          simp only [cl, hlen', h1', b3', g7, cond_true, cond_false, Bool.and_self, Qas]
          have e1 : (!(List.any b.2.2.2.2.1 fun d : MSig => !sigIn h.1 d)) = List.all b.2.2.2.2.1 (sigIn h.1) := Qbf _ _
          rw [e1]
          cases same (b.2.2.1.map (·.1)) (h.2.1.getD b.1.toNat spc0).1 <;> rfl) (fun f i t r s hd hi hs => by
          have hsl : s.length = i := by rw [hs, List.length_map, List.length_take]; omega
          refine .inr ⟨s ++ [t.1], ?_, ?_, rfl⟩
          · rw [hs, List.take_succ_eq_append_getElem hi, List.map_append]
            have : b.2.2.1[i] = t := by have := List.drop_eq_getElem_cons hi; rw [hd] at this; exact (List.cons.inj this).1.symm
            rw [this]; rfl
          · rw [rd0_cv, Qaa hi, Qae hi, Qaf (by omega), Qab hd, Qj1 (by show s.length + 1 <= _; omega)]; rfl) b.2.2.1.length 0 [] (by omega) (by rw [List.take_zero]; rfl)
        exact this
      · exact ⟨0, rfl⟩
theorem s_cw : C_cw (fun x => houSm x.2.1 && smB x.1) (fun x => (!batIn x.2.1.1 x.2.1.2.1 x.1, ())) := S_cw s_cv fun x hx => ⟨0, (ev_cw 0 x.1 x.2.1).trans (by
  have hx : (houSm x.2.1 && smB x.1) = true := hx
  simp only [cl, hx, cond_true, Qas])⟩
theorem s_cx : C_cx (fun x => decide (List.length x.1 <= 4294967296) && (houSm x.2.1.1 && List.all x.1 smB)) (fun x => (idxOf (fun d : MBat => !batIn x.2.1.1.1 x.2.1.1.2.1 d) x.1 0, ())) := S_cx s_cw fun x hx => ⟨List.length x.1 + 1, (ev_cx _ x.1 x.2.1).trans (by
  obtain ⟨hx, hx2⟩ := Bool.and_eq_true_iff.1 hx
  obtain ⟨hx2, hx3⟩ := Bool.and_eq_true_iff.1 hx2
  have hx : List.length x.1 <= 4294967296 := of_decide_eq_true hx
  refine Qbz (α := MBat) x.1 (fun d => !batIn x.2.1.1.1 x.2.1.1.2.1 d) (fun k i => r_cx (fun x => (!batIn x.2.1.1 x.2.1.2.1 x.1, ())) (fun x => houSm x.2.1 && smB x.1) (x.1, x.2.1, ()) k pt1 (h0_cx x.1 x.2.1 (List.length x.1 : Int) (i : Int))) (fun k => ?_) (fun k i y r hd hi => ?_)
  · rw [rd0_cx, Qad (Nat.le_refl _)]; rfl
  · rw [rd0_cx, Qaa hi, Qae hi, Qaf (by omega), Qab hd]
    have hs : smB y = true := List.all_eq_true.1 hx3 y (Qau hd)
    simp only [cl, hs, hx2, cond_true, Bool.and_self])⟩
theorem s_cy : C_cy (fun x => decide (List.length x.1 <= 4294967296) && (houSm x.2.1.1 && List.all x.1 smB)) (fun x => (List.any x.1 (fun d : MBat => !batIn x.2.1.1.1 x.2.1.1.2.1 d), ())) := S_cy s_cx fun x hx => ⟨0, (ev_cy 0 x.1 x.2.1).trans (by
  have hx : (decide (List.length x.1 <= 4294967296) && (houSm x.2.1.1 && List.all x.1 smB)) = true := hx
  simp only [cl, hx, cond_true, Qbe])⟩
theorem s_cz : C_cz (fun x => houSm x.1) (fun x => (houOk x.1, ())) := S_cz s_bj s_bu s_cy fun x hx => ⟨0, (ev_cz 0 x.1).trans (by
  obtain ⟨h, u⟩ := x
  change MHou at h
  have hx : houSm h = true := hx
  obtain ⟨h1, h2, h3, h4⟩ := Qdc.1 hx
  have h1' : decide (List.length h.1 <= 4294967296) = true := decide_eq_true h1
  have h3' : decide (List.length h.2.2 <= 4294967296) = true := decide_eq_true h3
  have h4' : List.all h.2.2 smB = true := List.all_eq_true.2 h4
  have e1 : (!(List.any h.2.2 fun d : MBat => !batIn h.1 h.2.1 d)) = List.all h.2.2 (batIn h.1 h.2.1) := Qbf _ _
  have e4 : decide ((List.length h.2.2 : Int) <= (4 : Int)) = decide (h.2.2.length <= 4) := by
    by_cases hl : h.2.2.length <= 4
    · rw [decide_eq_true hl, decide_eq_true (show (List.length h.2.2 : Int) <= (4 : Int) by omega)]
    · rw [decide_eq_false hl, decide_eq_false (show ¬ (List.length h.2.2 : Int) <= (4 : Int) by omega)]
  show _ = some (houOk h, ())
  unfold houOk
  simp only [cl, hx, h1', h2, h3', h4', cond_true, Bool.and_self, Qas, e1, e4]
  cases rolesOk h.1
  · rfl
  · cases spcsOk h.2.1
    · rfl
    · cases decide (h.2.2.length <= 4) <;> rfl)⟩
def sigsIn (ro : List Int) (b : MBat) : Bool := b.2.2.2.2.1.all (sigIn ro)
noncomputable def asksIn (s : MSpc) (b : MBat) : Bool := same (b.2.2.1.map (·.1)) s.1 && !decide (s.2 = 1)
theorem s_bd : C_bd (fun x => decide (List.length x.1 <= 4294967296) && (smB x.2.1 && sigsOk x.2.1)) (fun x => (sigsIn x.1 x.2.1, ())) := S_bd fun x hx => by
  obtain ⟨ro, b, u⟩ := x
  change List Int at ro
  change MBat at b
  simp only [Bool.and_eq_true, decide_eq_true_eq] at hx
  obtain ⟨h1, h2, h3⟩ := hx
  have h1 : ro.length <= 4294967296 := h1
  have h2 : smB b = true := h2
  have h3 : List.all b.2.2.2.2.1 sigOk = true := h3
  have b3 := (Qbg.1 h2).2.2.1
  obtain ⟨k, hk⟩ := Qcr (α := MSig) b.2.2.2.2.1 (sigIn ro) true (fun k i => r_bd (ro, b, ()) k pt1 (h0_bd ro b (i : Int))) (fun _ => ⟨1, by rw [rd0_bd, Qad (Nat.le_refl _)]; rfl⟩) (fun k i s r hd hi => by
    have hs : sigOk s = true := List.all_eq_true.1 h3 s (Qau hd)
    have h0i : decide ((0 : Int) <= (i : Int)) = true := decide_eq_true (by omega)
    rw [rd0_bd, Qaf (by omega), Qab hd]
    simp only [h0i, Qae hi, cond_true]
    unfold sigIn
    by_cases hl : (List.length ro : Int) < s.1
    · rw [decide_eq_true hl, decide_eq_false (show ¬ s.1 <= (ro.length : Int) by omega)]; rfl
    · obtain ⟨e1, e2, e3⟩ := Qjh h1 hs hl
      rw [e1, e2, e3, decide_eq_false hl, decide_eq_true (show s.1 <= (ro.length : Int) by omega)]
      cases decide (ro.getD (s.1 - 1).toNat 0 = s.2.1) <;> rfl)
  rw [Bool.and_true] at hk
  exact ⟨k, (ev_bd k ro b).trans hk⟩
theorem Qmq (l : List MTst) (m : List MAsk) (hl : m.length = l.length) (F : Nat -> Nat -> Option (Bool × Unit)) (hend : ∀ k, F (k + 1) m.length = some (true, ()))
    (hstep : ∀ k i a t r r', m.drop i = a :: r -> l.drop i = t :: r' -> i < m.length -> i < l.length -> F (k + 1) i = bif same a t.1 then F k (i + 1) else some (false, ())) : F (m.length + 1) 0 = some (same (l.map (·.1)) m, ()) := by
  have e : same (l.map (·.1)) m = same m (l.map (·.1)) := by rw [Bool.eq_iff_iff, Qbm, Qbm]; exact eq_comm
  rw [e]
  refine Qb5 m (l.map (·.1)) (by rw [List.length_map]; exact hl) F hend fun k i x y r r' hd hd' hi hi' => ?_
  rw [List.length_map] at hi'
  have hdl := List.drop_eq_getElem_cons hi'
  rw [<- List.map_drop, hdl, List.map_cons] at hd'
  rw [hstep k i x _ r _ hd hdl hi hi', (List.cons.inj hd').1]
theorem s_be : C_be (fun x => smA x.1.1 && smB x.2.1) (fun x => (asksIn x.1 x.2.1, ())) := S_be fun x hx => ⟨List.length x.1.1 + 1, (ev_be _ x.1 x.2.1).trans (by
  obtain ⟨s, b, u⟩ := x
  change MSpc at s
  change MBat at b
  obtain ⟨h1, h2⟩ := Bool.and_eq_true_iff.1 hx
  have h1 : List.length s.1 <= 4294967296 := of_decide_eq_true h1
  have h2 : smB b = true := h2
  show _ = some (asksIn s b, ())
  unfold asksIn
  by_cases hl : List.length s.1 = List.length b.2.2.1
  · have el : (List.length s.1 : Int) = (List.length b.2.2.1 : Int) := by omega
    rw [decide_eq_true el]
    cases decide (s.2 = 1)
    · refine (Qmq b.2.2.1 s.1 hl (fun k i => r_be (s, b, ()) k pt0 (h0_be s b (i : Int))) (fun k => ?_) (fun k i a t r r' hd hd' hi hi' => ?_)).trans ?_
      · rw [rd0_be, Qad (Nat.le_refl _)]; rfl
      · rw [rd0_be, Qaa hi, Qaa hi', Qae hi, Qaf (by omega), Qab hd, Qab hd', Qj6]
        cases same a t.1 <;> rfl
      · rw [Bool.not_false, Bool.and_true]
    · rw [Bool.not_true, Bool.and_false]; rfl
  · rw [decide_eq_false (show ¬ (List.length s.1 : Int) = (List.length b.2.2.1 : Int) by omega), Qdi (fun e => hl (by rw [<- e, List.length_map]))]; rfl)⟩
theorem s_bf : C_bf (fun x => houSm x.1) (fun x => (houOk x.1, ())) := S_bf s_ar s_az s_bc s_bd s_be fun x hx => by
  obtain ⟨h, u⟩ := x
  change MHou at h
  have hx : houSm h = true := hx
  obtain ⟨h1, h2, h3, h4⟩ := Qdc.1 hx
  have h1' : decide (List.length h.1 <= 4294967296) = true := decide_eq_true h1
  have key : ∃ k, r_bf (fun x => (inq x.1 x.2.1 x.2.2.1, ())) (fun x => (spcsOk x.1, ())) (fun x => (batOk x.1, ())) (fun x => smB x.1) (fun x => (sigsIn x.1 x.2.1, ())) (fun x => decide (List.length x.1 <= 4294967296) && (smB x.2.1 && sigsOk x.2.1)) (fun x => (asksIn x.1 x.2.1, ())) (fun x => smA x.1.1 && smB x.2.1) (h, ()) k pt0 (h0_bf h (0 : Int)) = some (h.1.all (fun d => inq d 1 4) && (h.2.2.all (batIn h.1 h.2.1) && true), ()) := by
    refine Qcr (α := Int) h.1 (fun d => inq d 1 4) _ (fun k i => r_bf (fun x => (inq x.1 x.2.1 x.2.2.1, ())) (fun x => (spcsOk x.1, ())) (fun x => (batOk x.1, ())) (fun x => smB x.1) (fun x => (sigsIn x.1 x.2.1, ())) (fun x => decide (List.length x.1 <= 4294967296) && (smB x.2.1 && sigsOk x.2.1)) (fun x => (asksIn x.1 x.2.1, ())) (fun x => smA x.1.1 && smB x.2.1) (h, ()) k pt0 (h0_bf h (i : Int))) (fun _ => ?_) (fun k i o r hd hi => ?_)
    · obtain ⟨k, hk⟩ := Qcr (α := MBat) h.2.2 (batIn h.1 h.2.1) true (fun k i => r_bf (fun x => (inq x.1 x.2.1 x.2.2.1, ())) (fun x => (spcsOk x.1, ())) (fun x => (batOk x.1, ())) (fun x => smB x.1) (fun x => (sigsIn x.1 x.2.1, ())) (fun x => decide (List.length x.1 <= 4294967296) && (smB x.2.1 && sigsOk x.2.1)) (fun x => (asksIn x.1 x.2.1, ())) (fun x => smA x.1.1 && smB x.2.1) (h, ()) k pt2 (h1_bf h (i : Int))) (fun _ => ⟨1, by
        rw [rd1_bf, lt_eq, Qad (Nat.le_refl _)]; rfl⟩) (fun k i b r hd hi => by
        have hb : smB b = true := h4 b (Qau hd)
        rw [rd1_bf, lt_eq, Qaa hi, Qae hi, Qaf (by omega), Qab hd]
        simp only [cl, hb, h1', cond_true, Bool.true_and, Bool.and_true]
        unfold batIn sigsIn asksIn
        cases hok : batOk b
        · rfl
        · obtain ⟨⟨g1, _, _, _, _, _, g7, _⟩, _⟩ := Qic.1 hok
          by_cases hs : (List.length h.2.1 : Int) <= b.1
          · rw [decide_eq_true hs, decide_eq_false (show ¬ b.1 < (h.2.1.length : Int) by omega)]; rfl
          · have e : rdL (e := S_SpcSpec) h.2.1 b.1 = h.2.1.getD b.1.toNat spc0 := rfl
            have hsm : smA (h.2.1.getD b.1.toNat spc0).1 = true := decide_eq_true ((Qdq.1 h2).2 _ (Qmp g1.1 (by omega)))
            rw [decide_eq_false hs, decide_eq_true (show b.1 < (List.length h.2.1 : Int) by omega), decide_eq_true g1.1, e]
            simp only [g7, hsm, cond_true, cond_false]
            cases List.all b.2.2.2.2.1 (sigIn h.1) <;> cases decide ((h.2.1.getD b.1.toNat spc0).2 = 1) <;> cases same (b.2.2.1.map (·.1)) (h.2.1.getD b.1.toNat spc0).1 <;> rfl)
      exact ⟨k + 1, by rw [rd0_bf, Qad (Nat.le_refl _)]; exact hk⟩
    · rw [rd0_bf, Qaa hi, Qae hi, Qaf (by omega), Qab hd]
      simp only [cond_true, Qas, Qb4]
  obtain ⟨k, hk⟩ := key
  refine ⟨k, (ev_bf k h).trans ?_⟩
  have e4 : decide (h.2.2.length <= 4) = !decide ((4 : Int) < (List.length h.2.2 : Int)) := by
    by_cases hl : h.2.2.length <= 4
    · rw [decide_eq_true hl, decide_eq_false (show ¬ (4 : Int) < (List.length h.2.2 : Int) by omega)]; rfl
    · rw [decide_eq_false hl, decide_eq_true (show (4 : Int) < (List.length h.2.2 : Int) by omega)]; rfl
  show _ = some (houOk h, ())
  unfold houOk rolesOk
  rw [e4]
  simp only [hk]
  cases inq (List.length h.1 : Int) 1 5
  · rfl
  · cases spcsOk h.2.1
    · simp only [Bool.false_and, Bool.and_false]; rfl
    · cases decide ((4 : Int) < (List.length h.2.2 : Int))
      · simp only [Bool.true_and, Bool.and_true, Bool.not_false]; rfl
      · simp only [Bool.true_and, Bool.false_and, Bool.and_false, Bool.not_true]; rfl
end Go.Proofs.YtmbmoenjhfkgkaaGreat

set_option linter.unusedVariables false
set_option linter.unusedSimpArgs false
namespace Go.Proofs.YtmbmoenjhfkgkaaGreat
open Go.Vm
theorem Ql6 (a b : Bool) : same a b = (a == b) := by
  rw [Bool.eq_iff_iff, Qbm]; exact beq_iff_eq.symm
def wfTsts (l : List MTst) : Bool := okLen l.length && l.all (fun t => okLen t.2.2.2.2.length)
def wfBat (b : MBat) : Bool := wfTsts b.2.2.1 && (okLen b.2.2.2.2.1.length && okLen b.2.2.2.2.2.length)
def wfBats (l : List MBat) : Bool := okLen l.length && l.all wfBat
def wfHou (h : MHou) : Bool := okLen h.1.length && (wfSpcs h.2.1 && wfBats h.2.2)
def smTs (l : List MTst) : Bool := decide (l.length <= 4294967296) && l.all (fun t => decide (t.2.2.2.2.length <= 4294967296))
theorem Qgf {l : List MTst} : smTs l = true ↔ l.length <= 4294967296 /\ ∀ t ∈ l, t.2.2.2.2.length <= 4294967296 := by
  unfold smTs; simp only [Bool.and_eq_true, decide_eq_true_eq, List.all_eq_true]
theorem Qif {b : MBat} (h : smB b = true) : smTs b.2.2.1 = true /\ decide (List.length b.2.2.2.2.1 <= 4294967296) = true /\ decide (List.length b.2.2.2.2.2 <= 4294967296) = true := by
  obtain ⟨h1, h2, h3, h4⟩ := Qbg.1 h
  exact ⟨Qgf.2 ⟨h1, h2⟩, decide_eq_true h3, decide_eq_true h4⟩
def smBs (l : List MBat) : Bool := decide (l.length <= 4294967296) && l.all smB
theorem Qgg {l : List MBat} : smBs l = true ↔ l.length <= 4294967296 /\ ∀ b ∈ l, smB b = true := by
  unfold smBs; simp only [Bool.and_eq_true, decide_eq_true_eq, List.all_eq_true]
theorem Qf1 {h : MHou} (hh : houSm h = true) : decide (List.length h.1 <= 4294967296) = true /\ smS h.2.1 = true /\ smBs h.2.2 = true := by
  obtain ⟨h1, h2, h3, h4⟩ := Qdc.1 hh
  exact ⟨decide_eq_true h1, h2, Qgg.2 ⟨h3, h4⟩⟩
theorem s_a0 : C_a0 (fun x => okLen (List.length x.1) && inq x.2.1 0 1048576) (fun x => (siN (List.length x.1) x.2.1, ())) := S_a0 fun x hx => ⟨0, (ev_a0 0 x.1 x.2.1).trans (by
  have h := Bool.and_eq_true_iff.1 hx
  have h2 := Qak.1 h.2
  exact p_szLen _ _ (Qat.1 h.1) h2.1 h2.2)⟩
theorem s_a7 : C_a7 (fun x => okLen (List.length x.1) && inq x.2.1 0 1048576) (fun x => (siN (List.length x.1) x.2.1, ())) := S_a7 fun x hx => ⟨0, (ev_a7 0 x.1 x.2.1).trans (by
  have h := Bool.and_eq_true_iff.1 hx
  have h2 := Qak.1 h.2
  exact p_szLen _ _ (Qat.1 h.1) h2.1 h2.2)⟩
theorem s_a8 : C_a8 (fun x => okLen (List.length x.1) && inq x.2.1 0 1048576) (fun x => (siN (List.length x.1) x.2.1, ())) := S_a8 fun x hx => ⟨0, (ev_a8 0 x.1 x.2.1).trans (by
  have h := Bool.and_eq_true_iff.1 hx
  have h2 := Qak.1 h.2
  exact p_szLen _ _ (Qat.1 h.1) h2.1 h2.2)⟩
theorem s_a6 : C_a6 (fun x => wfTsts x.1 && inq x.2.1 0 1048576) (fun x => (szList siTst x.1 x.2.1, ())) := S_a6 s_a5 fun x hx => ⟨List.length x.1 + 1, (ev_a6 _ x.1 x.2.1).trans (by
  obtain ⟨h1, h2⟩ := Bool.and_eq_true_iff.1 hx
  obtain ⟨h3, h4⟩ := Bool.and_eq_true_iff.1 h1
  obtain ⟨h5, h6⟩ := Qak.1 h2
  have h4 : ∀ s ∈ (x.1 : List MTst), okLen (List.length s.2.2.2.2) = true := fun s hs => List.all_eq_true.1 h4 s hs
  refine p_sz0 (Qat.1 h3) h5 h6 fun hle => ?_
  have key : ∀ (xs : List MTst) (l l0 : Int), xs.length <= 1048576 -> 0 <= l -> l <= 1048576 -> (∀ s ∈ xs, okLen (List.length s.2.2.2.2) = true) -> r_a6 (fun x => (szN (List.length x.1.2.2.2.2) x.2.1, ())) (fun x => okLen (List.length x.1.2.2.2.2) && inq x.2.1 0 1048576) (xs, l0, ()) (xs.length + 1) pt2 (h0_a6 xs l0 l ((0 : Nat) : Int)) = some (szGo siTst xs l, ()) := fun xs l l0 hx h0 h1 hm => by
    refine Qhk xs siTst Qdd (fun k i l => r_a6 (fun x => (szN (List.length x.1.2.2.2.2) x.2.1, ())) (fun x => okLen (List.length x.1.2.2.2.2) && inq x.2.1 0 1048576) (xs, l0, ()) k pt2 (h0_a6 xs l0 l (i : Int))) (fun k l => ?_) (fun k i y r l hd hi g0 g1 => ?_) l h0 h1
    · rw [rd0_a6, Qad (Nat.le_refl _)]; rfl
    · rw [rd0_a6, Qaa hi, Qae hi, Qaf (by omega), Qab hd]
      have : (okLen (List.length y.2.2.2.2) && inq l 0 1048576) = true := Bool.and_eq_true_iff.2 ⟨hm y (Qau hd), Qak.2 ⟨g0, g1⟩⟩
      rw [cl_eq this]
      rfl
  have e : w64 ((x.2.1 : Int) - ((List.length x.1 : Nat) : Int)) = x.2.1 - ((List.length x.1 : Nat) : Int) := Qal (Int.le_trans (by decide) (Int.sub_nonneg.2 hle)) (Int.le_trans (Int.sub_le_self _ (Int.natCast_nonneg _)) (Int.le_trans h6 (by decide)))
  rw [e]
  exact key x.1 _ x.2.1 (Int.ofNat_le.1 (show ((List.length x.1 : Nat) : Int) <= ((1048576 : Nat) : Int) from Int.le_trans hle h6)) (Int.sub_nonneg.2 hle) (Int.le_trans (Int.sub_le_self _ (Int.natCast_nonneg _)) h6) h4)⟩
theorem s_a9 : C_a9 (fun x => wfBat x.1 && inq x.2.1 0 1048576) (fun x => (siBat x.1 x.2.1, ())) := S_a9 s_a6 s_a7 s_a8 fun x hx => ⟨0, (ev_a9 0 x.1 x.2.1).trans (by
  obtain ⟨b, l, u⟩ := x
  change MBat at b
  change Int at l
  obtain ⟨h1, h2⟩ := Bool.and_eq_true_iff.1 hx
  have h1 : wfBat b = true := h1
  have h2 : inq l 0 1048576 = true := h2
  obtain ⟨w1, w23⟩ := Bool.and_eq_true_iff.1 h1
  obtain ⟨w2, w3⟩ := Bool.and_eq_true_iff.1 w23
  have h3 := Qak.1 h2
  dsimp only
  rw [cl_eq (Bool.and_eq_true_iff.2 ⟨w1, h2⟩)]
  refine p_sq fun g1 => ?_
  have k1 := Qdb (f := siTst) (xs := b.2.2.1) Qdd h3.1
  rw [cl_eq (Bool.and_eq_true_iff.2 ⟨w2, Qak.2 ⟨g1, by dsimp only at g1 ⊢; omega⟩⟩)]
  refine p_sq fun g2 => ?_
  have k2 := Qjf (n := b.2.2.2.2.1.length) g1
  rw [cl_eq (Bool.and_eq_true_iff.2 ⟨w3, Qak.2 ⟨g2, by dsimp only at g1 g2 k2 ⊢; omega⟩⟩)]
  exact p_sq fun g3 => rfl)⟩
theorem s_aa : C_aa (fun x => wfBats x.1 && inq x.2.1 0 1048576) (fun x => (szList siBat x.1 x.2.1, ())) := S_aa s_a9 fun x hx => ⟨List.length x.1 + 1, (ev_aa _ x.1 x.2.1).trans (by
  obtain ⟨h1, h2⟩ := Bool.and_eq_true_iff.1 hx
  obtain ⟨h3, h4⟩ := Bool.and_eq_true_iff.1 h1
  obtain ⟨h5, h6⟩ := Qak.1 h2
  have h4 : ∀ s ∈ (x.1 : List MBat), wfBat s = true := fun s hs => List.all_eq_true.1 h4 s hs
  refine p_sz0 (Qat.1 h3) h5 h6 fun hle => ?_
  have key : ∀ (xs : List MBat) (l l0 : Int), xs.length <= 1048576 -> 0 <= l -> l <= 1048576 -> (∀ s ∈ xs, wfBat s = true) -> r_aa (fun x => (siBat x.1 x.2.1, ())) (fun x => wfBat x.1 && inq x.2.1 0 1048576) (xs, l0, ()) (xs.length + 1) pt2 (h0_aa xs l0 l ((0 : Nat) : Int)) = some (szGo siBat xs l, ()) := fun xs l l0 hx h0 h1 hm => by
    refine Qhk xs siBat Qid (fun k i l => r_aa (fun x => (siBat x.1 x.2.1, ())) (fun x => wfBat x.1 && inq x.2.1 0 1048576) (xs, l0, ()) k pt2 (h0_aa xs l0 l (i : Int))) (fun k l => ?_) (fun k i y r l hd hi g0 g1 => ?_) l h0 h1
    · rw [rd0_aa, Qad (Nat.le_refl _)]; rfl
    · rw [rd0_aa, Qaa hi, Qae hi, Qaf (by omega), Qab hd]
      have : (wfBat y && inq l 0 1048576) = true := Bool.and_eq_true_iff.2 ⟨hm y (Qau hd), Qak.2 ⟨g0, g1⟩⟩
      rw [cl_eq this]
      rfl
  have e : w64 ((x.2.1 : Int) - ((List.length x.1 : Nat) : Int)) = x.2.1 - ((List.length x.1 : Nat) : Int) := Qal (Int.le_trans (by decide) (Int.sub_nonneg.2 hle)) (Int.le_trans (Int.sub_le_self _ (Int.natCast_nonneg _)) (Int.le_trans h6 (by decide)))
  rw [e]
  exact key x.1 _ x.2.1 (Int.ofNat_le.1 (show ((List.length x.1 : Nat) : Int) <= ((1048576 : Nat) : Int) from Int.le_trans hle h6)) (Int.sub_nonneg.2 hle) (Int.le_trans (Int.sub_le_self _ (Int.natCast_nonneg _)) h6) h4)⟩
theorem s_ab : C_ab (fun x => wfHou x.1 && inq x.2.1 0 1048576) (fun x => (siHou x.1 x.2.1, ())) := S_ab s_a0 s_a3 s_aa fun x hx => ⟨0, (ev_ab 0 x.1 x.2.1).trans (by
  obtain ⟨b, l, u⟩ := x
  change MHou at b
  change Int at l
  obtain ⟨h1, h2⟩ := Bool.and_eq_true_iff.1 hx
  have h1 : wfHou b = true := h1
  have h2 : inq l 0 1048576 = true := h2
  obtain ⟨w1, w23⟩ := Bool.and_eq_true_iff.1 h1
  obtain ⟨w2, w3⟩ := Bool.and_eq_true_iff.1 w23
  have h3 := Qak.1 h2
  dsimp only
  rw [cl_eq (Bool.and_eq_true_iff.2 ⟨w1, h2⟩)]
  refine p_sq fun g1 => ?_
  have k1 := Qjf (n := b.1.length) h3.1
  rw [cl_eq (Bool.and_eq_true_iff.2 ⟨w2, Qak.2 ⟨g1, by dsimp only at g1 k1 ⊢; omega⟩⟩)]
  refine p_sq fun g2 => ?_
  have k2 := Qdb (f := szSpc) (xs := b.2.1) Qfi g1
  rw [cl_eq (Bool.and_eq_true_iff.2 ⟨w3, Qak.2 ⟨g2, by dsimp only at g1 g2 k1 k2 ⊢; omega⟩⟩)]
  exact p_sq fun g3 => rfl)⟩
theorem s_al : C_al (fun _ => true) (fun x => (x.1, ())) := S_al fun x _ => ⟨0, ev_al 0 x.1⟩
theorem s_ac : C_ac (fun x => decide (List.length x.1 <= 4294967296)) (fun x => (x.1, ())) := S_ac fun x hx => ⟨List.length x.1 + 1, (ev_ac _ x.1).trans (by
  have hx : List.length x.1 <= 4294967296 := of_decide_eq_true hx
  rw [p_make hx]
  refine (Qb9 (α := Int) x.1 (fun y => y) (fun k i out => r_ac  (x.1, ()) k pt0 (h0_ac x.1 (i : Int) out)) (fun k out ho => ?_) (fun k i y r out hd hi ho => ?_) _ ?_).trans ?_
  · rw [rd0_ac, Qad (Nat.le_refl _)]; rfl
  · rw [rd0_ac, Qaa hi, Qaa (ho.symm ▸ hi), Qae hi, Qaf (by omega), Int.toNat_natCast, Qab hd]; rfl
  · rw [List.length_replicate]; exact Int.toNat_natCast _
  · rw [List.map_id'])⟩
theorem s_an : C_an (fun x => decide (List.length x.1 <= 4294967296)) (fun x => (x.1, ())) := S_an fun x hx => ⟨List.length x.1 + 1, (ev_an _ x.1).trans (by
  have hx : List.length x.1 <= 4294967296 := of_decide_eq_true hx
  rw [p_make hx]
  refine (Qb9 (α := Bool) x.1 (fun y => y) (fun k i out => r_an  (x.1, ()) k pt0 (h0_an x.1 (i : Int) out)) (fun k out ho => ?_) (fun k i y r out hd hi ho => ?_) _ ?_).trans ?_
  · rw [rd0_an, Qad (Nat.le_refl _)]; rfl
  · rw [rd0_an, Qaa hi, Qaa (ho.symm ▸ hi), Qae hi, Qaf (by omega), Int.toNat_natCast, Qab hd]; rfl
  · rw [List.length_replicate]; exact Int.toNat_natCast _
  · rw [List.map_id'])⟩
theorem s_am : C_am (fun x => decide (List.length x.1 <= 4294967296)) (fun x => (x.1, ())) := S_am s_al fun x hx => ⟨List.length x.1 + 1, (ev_am _ x.1).trans (by
  have hx : List.length x.1 <= 4294967296 := of_decide_eq_true hx
  rw [p_make hx]
  refine (Qb9 (α := MSig) x.1 (fun y => y) (fun k i out => r_am (fun x => (x.1, ())) (fun _ => true) (x.1, ()) k pt0 (h0_am x.1 (i : Int) out)) (fun k out ho => ?_) (fun k i y r out hd hi ho => ?_) _ ?_).trans ?_
  · rw [rd0_am, Qad (Nat.le_refl _)]; rfl
  · rw [rd0_am, Qaa hi, Qaa (ho.symm ▸ hi), Qae hi, Qaf (by omega), Int.toNat_natCast, Qab hd]; try rw [cl_eq rfl]; rfl
  · rw [List.length_replicate]; exact Int.toNat_natCast _
  · rw [List.map_id'])⟩
theorem s_ak : C_ak (fun x => smTs x.1) (fun x => (x.1, ())) := S_ak s_aj fun x hx => ⟨List.length x.1 + 1, (ev_ak _ x.1).trans (by
  obtain ⟨h1, h2⟩ := Qgf.1 hx
  have h1 : List.length x.1 <= 4294967296 := h1
  rw [p_make h1]
  refine (Qb9 (α := MTst) x.1 (fun y => y) (fun k i out => r_ak (fun x => (x.1, ())) (fun x => decide (List.length x.1.2.2.2.2 <= 4294967296)) (x.1, ()) k pt0 (h0_ak x.1 (i : Int) out)) (fun k out ho => ?_) (fun k i y r out hd hi ho => ?_) _ ?_).trans ?_
  · rw [rd0_ak, Qad (Nat.le_refl _)]; rfl
  · have h3 : decide (List.length y.2.2.2.2 <= 4294967296) = true := decide_eq_true (h2 y (Qau hd))
    rw [rd0_ak, Qaa hi, Qaa (ho.symm ▸ hi), Qae hi, Qaf (by omega), Int.toNat_natCast, Qab hd, cl_eq h3]; rfl
  · rw [List.length_replicate]; exact Int.toNat_natCast _
  · rw [List.map_id'])⟩
theorem s_ao : C_ao (fun x => smB x.1) (fun x => (x.1, ())) := S_ao s_ak s_am s_an fun x hx => ⟨0, (ev_ao 0 x.1).trans (by
  obtain ⟨h1, h2, h3⟩ := Qif hx
  rw [cl_eq h1, cl_eq h2, cl_eq h3])⟩
theorem s_ap : C_ap (fun x => smBs x.1) (fun x => (x.1, ())) := S_ap s_ao fun x hx => ⟨List.length x.1 + 1, (ev_ap _ x.1).trans (by
  obtain ⟨h1, h2⟩ := Qgg.1 hx
  have h1 : List.length x.1 <= 4294967296 := h1
  rw [p_make h1]
  refine (Qb9 (α := MBat) x.1 (fun y => y) (fun k i out => r_ap (fun x => (x.1, ())) (fun x => smB x.1) (x.1, ()) k pt0 (h0_ap x.1 (i : Int) out)) (fun k out ho => ?_) (fun k i y r out hd hi ho => ?_) _ ?_).trans ?_
  · rw [rd0_ap, Qad (Nat.le_refl _)]; rfl
  · have h3 : smB y = true := h2 y (Qau hd)
    rw [rd0_ap, Qaa hi, Qaa (ho.symm ▸ hi), Qae hi, Qaf (by omega), Int.toNat_natCast, Qab hd, cl_eq h3]; rfl
  · rw [List.length_replicate]; exact Int.toNat_natCast _
  · rw [List.map_id'])⟩
theorem s_aq : C_aq (fun x => houSm x.1) (fun x => (x.1, ())) := S_aq s_ac s_ah s_ap fun x hx => ⟨0, (ev_aq 0 x.1).trans (by
  obtain ⟨h1, h2, h3⟩ := Qf1 hx
  rw [cl_eq h1, cl_eq h2, cl_eq h3])⟩
theorem s_d9 : C_d9 (fun _ => true) (fun x => (same x.1 x.2.1, ())) := S_d9 fun x _ => ⟨0, (ev_d9 0 x.1 x.2.1).trans (by
  have key : ∀ a b : MSig, (bif (bif (decide (a.1 = b.1)) then false else true) then (some (false, ())) else (bif (bif (decide (a.2.1 = b.2.1)) then false else true) then (some (false, ())) else (bif (bif (decide (a.2.2 = b.2.2)) then false else true) then (some (false, ())) else (some (true, ()))))) = some (same a b, ()) := fun a b => by
    obtain ⟨a1, a2, a3⟩ := a
    obtain ⟨b1, b2, b3⟩ := b
    rw [Qj4 (a1, a2, a3) b1 (b2, b3), Qj4 (a2, a3) b2 b3]
    dsimp only
    rw [Qa3, Qa3, Qa3]
    cases same a1 b1 <;> cases same a2 b2 <;> cases same a3 b3 <;> rfl
  exact key x.1 x.2.1)⟩
theorem s_d0 : C_d0 (fun x => decide (List.length x.1 <= 4294967296)) (fun x => (same x.1 x.2.1, ())) := S_d0 fun x hx => ⟨List.length x.1 + 1, (ev_d0 _ x.1 x.2.1).trans (p_eqS fun hl => by
  have hx : List.length x.1 <= 4294967296 := of_decide_eq_true hx
  refine Qb5 (α := Int) x.1 x.2.1 hl (fun k i => r_d0  (x.1, x.2.1, ()) k pt0 (h0_d0 x.1 x.2.1 (i : Int))) (fun k => ?_) (fun k i y z r r' hd hd' hi hi' => ?_)
  · rw [rd0_d0, Qad (Nat.le_refl _)]; rfl
  · rw [rd0_d0, Qaa hi, Qaa hi', Qae hi, Qaf (by omega), Qab hd, Qab hd']
    rw [Qa3]; cases same y z <;> rfl)⟩
theorem s_db : C_db (fun x => decide (List.length x.1 <= 4294967296)) (fun x => (same x.1 x.2.1, ())) := S_db fun x hx => ⟨List.length x.1 + 1, (ev_db _ x.1 x.2.1).trans (p_eqS fun hl => by
  have hx : List.length x.1 <= 4294967296 := of_decide_eq_true hx
  refine Qb5 (α := Bool) x.1 x.2.1 hl (fun k i => r_db  (x.1, x.2.1, ()) k pt0 (h0_db x.1 x.2.1 (i : Int))) (fun k => ?_) (fun k i y z r r' hd hd' hi hi' => ?_)
  · rw [rd0_db, Qad (Nat.le_refl _)]; rfl
  · rw [rd0_db, Qaa hi, Qaa hi', Qae hi, Qaf (by omega), Qab hd, Qab hd']
    rw [Ql6]; cases y <;> cases z <;> rfl)⟩
theorem s_da : C_da (fun x => decide (List.length x.1 <= 4294967296)) (fun x => (same x.1 x.2.1, ())) := S_da s_d9 fun x hx => ⟨List.length x.1 + 1, (ev_da _ x.1 x.2.1).trans (p_eqS fun hl => by
  have hx : List.length x.1 <= 4294967296 := of_decide_eq_true hx
  refine Qb5 (α := MSig) x.1 x.2.1 hl (fun k i => r_da (fun x => (same x.1 x.2.1, ())) (x.1, x.2.1, ()) k pt0 (h0_da x.1 x.2.1 (i : Int))) (fun k => ?_) (fun k i y z r r' hd hd' hi hi' => ?_)
  · rw [rd0_da, Qad (Nat.le_refl _)]; rfl
  · rw [rd0_da, Qaa hi, Qaa hi', Qae hi, Qaf (by omega), Qab hd, Qab hd']
    show (bif (bif same y z then false else true) then _ else _) = _
    cases same y z <;> rfl)⟩
theorem s_d8 : C_d8 (fun x => smTs x.1) (fun x => (same x.1 x.2.1, ())) := S_d8 s_d7 fun x hx => ⟨List.length x.1 + 1, (ev_d8 _ x.1 x.2.1).trans (p_eqS fun hl => by
  obtain ⟨h1, h2⟩ := Qgf.1 hx
  have h1 : List.length x.1 <= 4294967296 := h1
  refine Qb5 (α := MTst) x.1 x.2.1 hl (fun k i => r_d8 (fun x => (same x.1 x.2.1, ())) (fun x => decide (List.length x.1.2.2.2.2 <= 4294967296)) (x.1, x.2.1, ()) k pt0 (h0_d8 x.1 x.2.1 (i : Int))) (fun k => ?_) (fun k i y z r r' hd hd' hi hi' => ?_)
  · rw [rd0_d8, Qad (Nat.le_refl _)]; rfl
  · have h3 : decide (List.length y.2.2.2.2 <= 4294967296) = true := decide_eq_true (h2 y (Qau hd))
    rw [rd0_d8, Qaa hi, Qaa hi', Qae hi, Qaf (by omega), Qab hd, Qab hd', cl_eq h3]
    show (bif (bif same y z then false else true) then _ else _) = _
    cases same y z <;> rfl)⟩
theorem Qk1 (a b : MBat) : (same a.1 b.1 && (same a.2.1 b.2.1 && (same a.2.2.1 b.2.2.1 && (same a.2.2.2.1 b.2.2.2.1 && (same a.2.2.2.2.1 b.2.2.2.2.1 && (same a.2.2.2.2.2 b.2.2.2.2.2 && true)))))) = same a b := by
  rw [Bool.and_true, Qap, Qap, Qap, Qap, Qap]
theorem s_dc : C_dc (fun x => smB x.1) (fun x => (same x.1 x.2.1, ())) := S_dc s_d8 s_da s_db fun x hx => ⟨0, (ev_dc 0 x.1 x.2.1).trans (by
  obtain ⟨a, b, u⟩ := x
  change MBat at a
  change MBat at b
  obtain ⟨h1, h2, h3⟩ := Qif hx
  dsimp only at h1 h2 h3 ⊢
  rw [cl_eq h1, cl_eq h2, cl_eq h3, <- Qk1 a b, Qa3, Qa3, Qa3]
  exact Qcf (Qcf (Qcf (Qcf (Qcf (Qcf rfl))))))⟩
theorem s_dd : C_dd (fun x => smBs x.1) (fun x => (same x.1 x.2.1, ())) := S_dd s_dc fun x hx => ⟨List.length x.1 + 1, (ev_dd _ x.1 x.2.1).trans (p_eqS fun hl => by
  obtain ⟨h1, h2⟩ := Qgg.1 hx
  have h1 : List.length x.1 <= 4294967296 := h1
  refine Qb5 (α := MBat) x.1 x.2.1 hl (fun k i => r_dd (fun x => (same x.1 x.2.1, ())) (fun x => smB x.1) (x.1, x.2.1, ()) k pt0 (h0_dd x.1 x.2.1 (i : Int))) (fun k => ?_) (fun k i y z r r' hd hd' hi hi' => ?_)
  · rw [rd0_dd, Qad (Nat.le_refl _)]; rfl
  · have h3 : smB y = true := h2 y (Qau hd)
    rw [rd0_dd, Qaa hi, Qaa hi', Qae hi, Qaf (by omega), Qab hd, Qab hd', cl_eq h3]
    show (bif (bif same y z then false else true) then _ else _) = _
    cases same y z <;> rfl)⟩
theorem s_de : C_de (fun x => houSm x.1) (fun x => (same x.1 x.2.1, ())) := S_de s_d0 s_d5 s_dd fun x hx => ⟨0, (ev_de 0 x.1 x.2.1).trans (by
  obtain ⟨a, b, u⟩ := x
  change MHou at a
  change MHou at b
  obtain ⟨h1, h2, h3⟩ := Qf1 hx
  dsimp only at h1 h2 h3 ⊢
  rw [cl_eq h1, cl_eq h2, cl_eq h3, <- Qk0 a b]
  exact Qcf (Qcf (Qcf rfl)))⟩
end Go.Proofs.YtmbmoenjhfkgkaaGreat

set_option linter.unusedVariables false
set_option linter.unusedSimpArgs false
namespace Go.Proofs.YtmbmoenjhfkgkaaGreat
open Go.Vm
theorem s_lFnExactHouOk : C_lFnExactHouOk (lawPre _) (fun _ => (true, ())) := S_lFnExactHouOk s_ab s_aq s_bf s_cz s_de fun x hx => ⟨0, (ev_lFnExactHouOk 0 x.1).trans (by
  have hw := (Qg1.1 hx).1
  obtain ⟨H, u⟩ := x
  change MHou at H
  have h1 : wfHou H = true := Bool.and_eq_true_iff.2 ⟨Qat.2 hw.1.1, Bool.and_eq_true_iff.2 ⟨Bool.and_eq_true_iff.2 ⟨Qat.2 hw.2.1.1, List.all_eq_true.2 fun s hs => Qat.2 (hw.2.1.2 s hs).1.1⟩,
    Bool.and_eq_true_iff.2 ⟨Qat.2 hw.2.2.1, List.all_eq_true.2 fun b hb => Bool.and_eq_true_iff.2 ⟨Bool.and_eq_true_iff.2 ⟨Qat.2 (hw.2.2.2 b hb).2.2.1.1, List.all_eq_true.2 fun t ht => Qat.2 ((hw.2.2.2 b hb).2.2.1.2 t ht).2.2.2.2.1⟩, Bool.and_eq_true_iff.2 ⟨Qat.2 (hw.2.2.2 b hb).2.2.2.2.1.1, Qat.2 (hw.2.2.2 b hb).2.2.2.2.2.1⟩⟩⟩⟩⟩
  have h2 : inq (1048576 : Int) 0 1048576 = true := rfl
  simp only [h1, h2, Bool.and_self, cond_true, cl]
  by_cases h : siHou H 1048576 < 0
  · simp only [decide_eq_true h, cond_true]
  · have h3 : houSm H = true := Qjs (Int.le_refl _) (Int.not_lt.1 h)
    simp only [decide_eq_false h, h3, Qfg, beq_self_eq_true, cond_true, cond_false])⟩

end Go.Proofs.YtmbmoenjhfkgkaaGreat
