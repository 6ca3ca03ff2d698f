/- The functions that FnExactBatTest reaches: what each of them answers, part 1. Conditions stand in each contract. -/
import Derived.Test.YtmbmoenjhfkgkaaGreatFnExactBatTestEq0
import Derived.Test.YtmbmoenjhfkgkaaGreatFnExactBatTestMoA
set_option linter.unusedVariables false
set_option linter.unusedSimpArgs false
namespace Go.Proofs.YtmbmoenjhfkgkaaGreat
open Go.Vm

theorem s_iin : C_iin (fun _ => true) (fun x => (inq x.1 x.2.1 x.2.2.1, ())) := S_iin fun x _ => ⟨0, (ev_iin 0 x.1 x.2.1 x.2.2.1).trans (by
  simp only [Qby, Qbz, Qcd]; rfl)⟩
theorem s_ah : C_ah (fun _ => true) (fun x => (inq x.1 x.2.1 x.2.2.1, ())) := S_ah fun x _ => ⟨0, (ev_ah 0 x.1 x.2.1 x.2.2.1).trans (by
  simp only [Qby, Qbz, Qcd]; rfl)⟩

/-- Ten, so many times. -/
theorem Qky {i : Nat} (h : i < 18) : w64 ((10 : Int) ^ i * (10 : Int)) = 10 ^ (i + 1) := by
  have : (10 : Int) ^ (i + 1) <= 10 ^ 18 := by exact_mod_cast Nat.pow_le_pow_right (by decide) (by omega)
  have h2 : (0 : Int) < 10 ^ (i + 1) := Int.pow_pos (by decide)
  rw [<- Int.pow_succ, Qac (by omega) (by omega)]

theorem p_bc (n : Int) (hn : n <= 18) : r_bc (n, ()) (n.toNat + 1) pt1 (h0_bc n (1 : Int) (0 : Int)) = some (pw n, ()) := by
  by_cases h0 : n <= 0
  · have : n.toNat = 0 := by omega
    rw [this, rd0_bc]
    have : decide ((0 : Int) < n) = false := decide_eq_false (by omega)
    rw [this]
    show some ((1 : Int), ()) = _
    unfold pw
    rw [show n.toNat = 0 by omega]; rfl
  · have hc : (n.toNat : Int) = n := by omega
    refine Qe4 (σ := Unit) n.toNat (fun k i _ => r_bc (n, ()) k pt1 (h0_bc n ((10 : Int) ^ i) (i : Int))) (fun _ _ => (pw n, ())) (fun _ _ => True) (fun k s _ => ?_) (fun k i s hi _ => ?_) n.toNat 0 () (by omega) trivial
    · rw [rd0_bc, show decide ((n.toNat : Int) < n) = false from decide_eq_false (by omega)]
      rfl
    · refine .inr ⟨(), trivial, ?_, rfl⟩
      rw [rd0_bc, show decide ((i : Int) < n) = true from decide_eq_true (by omega), Qky (by omega), Qag (by omega)]
      rfl
theorem s_bc : C_bc (fun x => decide (x.1 <= 18)) (fun x => (pw x.1, ())) := S_bc fun x hx => ⟨_, (ev_bc _ x.1).trans (p_bc x.1 (of_decide_eq_true hx))⟩
theorem p_ai (n : Int) (hn : n <= 18) : r_ai (n, ()) (n.toNat + 1) pt1 (h0_ai n (1 : Int) (0 : Int)) = some (pw n, ()) := by
  by_cases h0 : n <= 0
  · have : n.toNat = 0 := by omega
    rw [this, rd0_ai]
    have : decide ((0 : Int) < n) = false := decide_eq_false (by omega)
    rw [this]
    show some ((1 : Int), ()) = _
    unfold pw
    rw [show n.toNat = 0 by omega]; rfl
  · have hc : (n.toNat : Int) = n := by omega
    refine Qe4 (σ := Unit) n.toNat (fun k i _ => r_ai (n, ()) k pt1 (h0_ai n ((10 : Int) ^ i) (i : Int))) (fun _ _ => (pw n, ())) (fun _ _ => True) (fun k s _ => ?_) (fun k i s hi _ => ?_) n.toNat 0 () (by omega) trivial
    · rw [rd0_ai, show decide ((n.toNat : Int) < n) = false from decide_eq_false (by omega)]
      rfl
    · refine .inr ⟨(), trivial, ?_, rfl⟩
      rw [rd0_ai, show decide ((i : Int) < n) = true from decide_eq_true (by omega), Qky (by omega), Qag (by omega)]
      rfl
theorem s_ai : C_ai (fun x => decide (x.1 <= 18)) (fun x => (pw x.1, ())) := S_ai fun x hx => ⟨_, (ev_ai _ x.1).trans (p_ai x.1 (of_decide_eq_true hx))⟩
theorem Qdm {n d : Int} (h : nrPre n d = true) (h0 : 0 <= n) : w64 (Int.tdiv (w64 (w64 ((2 : Int) * n) + d)) (w64 ((2 : Int) * d))) = near n d /\ decide (w64 ((2 : Int) * d) = (0 : Int)) = false /\ 0 <= near n d /\ near n d <= 2000000000000000 := by
  obtain ⟨⟨h1, h2⟩, h3, h4⟩ := Qbu.1 h
  have e1 : w64 ((2 : Int) * d) = 2 * d := Qac (by omega) (by omega)
  have e2 : w64 ((2 : Int) * n) = 2 * n := Qac (by omega) (by omega)
  have e3 : w64 (2 * n + d) = 2 * n + d := Qac (by omega) (by omega)
  have e4 : Int.tdiv (2 * n + d) (2 * d) = (2 * n + d) / (2 * d) := Int.tdiv_eq_ediv_of_nonneg (by omega)
  have a1 : 0 <= (2 * n + d) / (2 * d) := Int.ediv_nonneg (by omega) (by omega)
  have a2 : (2 * n + d) / (2 * d) <= n + d := by
    refine Int.ediv_le_of_le_mul (by omega) ?_
    have : n + d <= (n + d) * d := by
      have := Int.mul_le_mul_of_nonneg_left (show (1 : Int) <= d by omega) (show 0 <= n + d by omega)
      omega
    have e : (n + d) * (2 * d) = 2 * ((n + d) * d) := by rw [Int.mul_left_comm]
    omega
  have e5 : near n d = (2 * n + d) / (2 * d) := by unfold near; rw [if_neg (by omega)]
  rw [e1, e2, e3, e4, e5]
  exact ⟨Qac (by omega) (by omega), decide_eq_false (by omega), a1, by omega⟩

theorem Qj7 {n d : Int} (h : n < 0) : near n d = -(near (-n) d) := by
  unfold near; rw [if_pos h, if_neg (by omega)]
theorem p_inearest_up {n d : Int} {g p} (h : nrPre n d = true) (h0 : 0 <= n) : E_be g p 0 (n, d, ()) = some (near n d, ()) := (ev_be 0 n d).trans (by
  obtain ⟨h1, h2, _⟩ := Qdm h h0
  rw [show decide (n < (0 : Int)) = false from decide_eq_false (by omega), h2, h1]
  rfl)
theorem s_inearest_up : C_be (fun x => nrPre x.1 x.2.1 && decide (0 <= x.1)) (fun x => (near x.1 x.2.1, ())) := S_be (S0_be (fn := fun _ => (0, ()))) fun x hx => ⟨0, p_inearest_up (Bool.and_eq_true_iff.1 hx).1 (of_decide_eq_true (Bool.and_eq_true_iff.1 hx).2)⟩
theorem p_be {n d : Int} (hx : nrPre n d = true) : E_be (fun x => (near x.1 x.2.1, ())) (fun x => nrPre x.1 x.2.1 && decide (0 <= x.1)) 0 (n, d, ()) = some (near n d, ()) := by
  obtain ⟨⟨h1, h2⟩, h3, h4⟩ := Qbu.1 hx
  by_cases h0 : n < 0
  · refine (ev_be 0 n d).trans ?_
    have e : w64 ((0 : Int) - n) = -n := by rw [Qac (by omega) (by omega)]; omega
    have hp : nrPre (-n) d = true := Qbu.2 ⟨⟨by omega, by omega⟩, h3, h4⟩
    obtain ⟨_, _, g1, g2⟩ := Qdm hp (by omega)
    rw [show decide (n < (0 : Int)) = true from decide_eq_true h0, e]
    simp only [cond_true, hp, show decide (0 <= -n) = true from decide_eq_true (by omega), Bool.and_self]
    rw [Qj7 h0, show w64 ((0 : Int) - near (-n) d) = -near (-n) d from by rw [Qac (by omega) (by omega)]; omega]
  · exact p_inearest_up hx (by omega)
theorem s_be : C_be (fun x => nrPre x.1 x.2.1) (fun x => (near x.1 x.2.1, ())) := S_be s_inearest_up fun x hx => ⟨0, p_be hx⟩
theorem p_sl1Near_up {n d : Int} {g p} (h : nrPre n d = true) (h0 : 0 <= n) : E_ak g p 0 (n, d, ()) = some (near n d, ()) := (ev_ak 0 n d).trans (by
  obtain ⟨h1, h2, _⟩ := Qdm h h0
  rw [show decide (n < (0 : Int)) = false from decide_eq_false (by omega), h2, h1]
  rfl)
theorem s_sl1Near_up : C_ak (fun x => nrPre x.1 x.2.1 && decide (0 <= x.1)) (fun x => (near x.1 x.2.1, ())) := S_ak (S0_ak (fn := fun _ => (0, ()))) fun x hx => ⟨0, p_sl1Near_up (Bool.and_eq_true_iff.1 hx).1 (of_decide_eq_true (Bool.and_eq_true_iff.1 hx).2)⟩
theorem p_ak {n d : Int} (hx : nrPre n d = true) : E_ak (fun x => (near x.1 x.2.1, ())) (fun x => nrPre x.1 x.2.1 && decide (0 <= x.1)) 0 (n, d, ()) = some (near n d, ()) := by
  obtain ⟨⟨h1, h2⟩, h3, h4⟩ := Qbu.1 hx
  by_cases h0 : n < 0
  · refine (ev_ak 0 n d).trans ?_
    have e : w64 ((0 : Int) - n) = -n := by rw [Qac (by omega) (by omega)]; omega
    have hp : nrPre (-n) d = true := Qbu.2 ⟨⟨by omega, by omega⟩, h3, h4⟩
    obtain ⟨_, _, g1, g2⟩ := Qdm hp (by omega)
    rw [show decide (n < (0 : Int)) = true from decide_eq_true h0, e]
    simp only [cond_true, hp, show decide (0 <= -n) = true from decide_eq_true (by omega), Bool.and_self]
    rw [Qj7 h0, show w64 ((0 : Int) - near (-n) d) = -near (-n) d from by rw [Qac (by omega) (by omega)]; omega]
  · exact p_sl1Near_up hx (by omega)
theorem s_ak : C_ak (fun x => nrPre x.1 x.2.1) (fun x => (near x.1 x.2.1, ())) := S_ak s_sl1Near_up fun x hx => ⟨0, p_ak hx⟩

end Go.Proofs.YtmbmoenjhfkgkaaGreat

set_option linter.unusedVariables false
set_option linter.unusedSimpArgs false
namespace Go.Proofs.YtmbmoenjhfkgkaaGreat
open Go.Vm

theorem s_bd : C_bd (fun _ => true) (fun x => (decOk x.1, ())) := S_bd s_iin s_bc fun x _ => ⟨0, (ev_bd 0 x.1).trans (p_decOk x.1)⟩
theorem s_aj : C_aj (fun _ => true) (fun x => (decOk x.1, ())) := S_aj s_ah s_ai fun x _ => ⟨0, (ev_aj 0 x.1).trans (p_decOk x.1)⟩
theorem s_bf : C_bf (fun _ => true) (fun x => (decAt x.1 x.2.1, ())) := S_bf s_bd s_iin s_bc s_be fun x _ => ⟨0, (ev_bf 0 x.1 x.2.1).trans (p_decAt x.1 x.2.1 _ fun h1 h2 => p_atR h1 h2)⟩
theorem s_al : C_al (fun x => decOk x.1 && inq x.2.1 0 3) (fun x => (atR x.1 x.2.1, ())) := S_al s_ai s_ak fun x hx => ⟨0, (ev_al 0 x.1 x.2.1).trans (p_atR (Bool.and_eq_true_iff.1 hx).1 (Bool.and_eq_true_iff.1 hx).2)⟩
theorem s_bg : C_bg (fun _ => true) (fun _ => (false, ())) := S_bg fun x _ => ⟨0, (ev_bg 0 x.1).trans (by
  rw [decide_eq_true rfl]; rfl)⟩
theorem s_bh : C_bh (fun _ => true) (fun x => (cmpI x.1 x.2.1, ())) := S_bh s_bg fun x _ => ⟨0, (ev_bh 0 x.1 x.2.1).trans (p_cmpI x.1 x.2.1)⟩
theorem s_bi : C_bi (fun _ => true) (fun x => (decCmp x.1 x.2.1, ())) := S_bi s_bd s_bf s_bh fun x _ => ⟨0, (ev_bi 0 x.1 x.2.1).trans (p_decCmp x.1 x.2.1 _ fun h1 h2 => by
  unfold decAt
  simp only [h1, h2, in03, Bool.and_self, cond_true])⟩
theorem s_am : C_am (fun _ => true) (fun x => (decCmp x.1 x.2.1, ())) := S_am s_aj s_al fun x _ => ⟨0, (ev_am 0 x.1 x.2.1).trans (p_decCmp x.1 x.2.1 _ fun h1 h2 => by
  simp only [h1, h2, in03, Bool.and_self, cond_true]
  exact p_cmpI _ _)⟩
theorem s_bb : C_bb (fun _ => true) (fun x => (inq x.1 1 4, ())) := S_bb s_iin fun x _ => ⟨0, ev_bb 0 x.1⟩
theorem s_bj : C_bj (fun _ => true) (fun x => (askOk x.1, ())) := S_bj s_bb s_bd s_bi s_iin fun x _ => ⟨0, (ev_bj 0 x.1).trans (by
  simp only [Qby, Qbz, Qcd]; rfl)⟩
theorem s_an : C_an (fun _ => true) (fun x => (askOk x.1, ())) := S_an s_ah s_aj s_am fun x _ => ⟨0, (ev_an 0 x.1).trans (by
  simp only [Qby, Qbz, Qcd]; rfl)⟩
theorem s_bp : C_bp (fun _ => true) (fun x => (spcIn x.1 x.2.1, ())) := S_bp s_bj s_bd s_bf s_bi fun x _ => ⟨0, (ev_bp 0 x.1 x.2.1).trans (p_spcIn x.1 x.2.1 _ fun h1 h2 => by
  have h3 := Qgw h1
  have e : decAt x.2.1 x.1.2.2.2 = atR x.2.1 x.1.2.2.2 := by unfold decAt; rw [h2, h3]; rfl
  simp only [e, Qby, Qbz, Qcd])⟩
theorem s_ap : C_ap (fun _ => true) (fun x => (spcIn x.1 x.2.1, ())) := S_ap s_an s_aj s_al s_am fun x _ => ⟨0, (ev_ap 0 x.1 x.2.1).trans (p_spcIn x.1 x.2.1 _ fun h1 h2 => by
  simp only [h2, Qgw h1, Bool.and_self, cond_true, Qby, Qbz, Qcd])⟩

end Go.Proofs.YtmbmoenjhfkgkaaGreat

set_option linter.unusedVariables false
set_option linter.unusedSimpArgs false
namespace Go.Proofs.YtmbmoenjhfkgkaaGreat
open Go.Vm

theorem s_a6 : C_a6 (fun _ => true) (fun x => (x.1, ())) := S_a6 fun x _ => ⟨0, ev_a6 0 x.1⟩
theorem s_a7 : C_a7 (fun _ => true) (fun x => (x.1, ())) := S_a7 s_a6 fun x _ => ⟨0, ev_a7 0 x.1⟩

theorem p_make {n : Nat} {α : Type} {X : Option α} (h : n <= 4294967296) : (bif (bif (bif (decide ((0 : Int) <= (n : Int))) then (decide ((n : Int) <= (BIG : Int))) else false) then (decide ((n : Int) = (n : Int))) else false) then X else none) = X := by
  rw [decide_eq_true (show (0 : Int) <= (n : Int) by omega), decide_eq_true (show (n : Int) <= (BIG : Int) by show (n : Int) <= ((4294967296 : Nat) : Int); omega), decide_eq_true rfl]; rfl

theorem s_cu : C_cu (fun _ => true) (fun x => (same x.1 x.2.1, ())) := S_cu fun x _ => ⟨0, (ev_cu 0 x.1 x.2.1).trans (by
  simp only [Qbl, Qdt, Qby, Qbz, Qcd, Qa0, Bool.and_true]
  exact congrArg (fun b => some (b, ())) (Qax _ _ _ _))⟩
theorem s_cv : C_cv (fun _ => true) (fun x => (same x.1 x.2.1, ())) := S_cv s_cu fun x _ => ⟨0, (ev_cv 0 x.1 x.2.1).trans (by
  simp only [Qbl, Qdt, Qby, Qbz, Qcd, Qa0, Bool.and_true]
  refine congrArg (fun b => some (b, ())) ?_
  rw [Qax, Qax, Qax])⟩

/-- Two rows of one length, and the loop over them. -/
theorem p_eqS {α : Type} {xs ys : List α} {X : Option (Bool × Unit)} (h : xs.length = ys.length -> X = some (same xs ys, ())) : (bif (bif (decide ((xs.length : Int) = (ys.length : Int))) then false else true) then (some (false, ())) else X) = some (same xs ys, ()) := by
  by_cases hl : xs.length = ys.length
  · rw [decide_eq_true (by omega)]; exact h hl
  · rw [decide_eq_false (by omega), Qhl fun e => hl (by rw [e])]; rfl

end Go.Proofs.YtmbmoenjhfkgkaaGreat

set_option linter.unusedVariables false
set_option linter.unusedSimpArgs false
namespace Go.Proofs.YtmbmoenjhfkgkaaGreat
open Go.Vm

theorem Qoa (a b : MDec) : Sh.beq S_DecDec a b = same a b := by
  show (decide (a.1 = b.1) && decide (a.2 = b.2)) = _
  rw [Qa0, Qa0, Qax]

theorem s_bk : C_bk (fun _ => true) (fun x => (!decOk x.1, ())) := S_bk s_bd fun x _ => ⟨0, (ev_bk 0 x.1).trans (by simp only [Qbl])⟩
theorem s_bl : C_bl (fun x => decide (List.length x.1 <= 4294967296)) (fun x => (idxOf (fun d => !decOk d) x.1 0, ())) := S_bl s_bk fun x hx => ⟨List.length x.1 + 1, (ev_bl _ x.1 x.2.1).trans (by
  have hx : List.length x.1 <= 4294967296 := of_decide_eq_true hx
  refine Qcn (α := MDec) x.1 (fun d => !decOk d) (fun k i => r_bl (fun x => (!decOk x.1, ())) (x.1, x.2.1, ()) k pt0 (h0_bl x.1 x.2.1 (List.length x.1 : Int) (i : Int))) (fun k => ?_) (fun k i y r hd hi => ?_)
  · rw [rd0_bl, Qad (Nat.le_refl _)]; rfl
  · rw [rd0_bl, Qae hi, Qaf hi, Qag (by omega), Qab hd]; rfl)⟩
theorem s_bm : C_bm (fun x => decide (List.length x.1 <= 4294967296)) (fun x => (List.any x.1 (fun d => !decOk d), ())) := S_bm s_bl fun x hx => ⟨0, (ev_bm 0 x.1 x.2.1).trans (by
  have hx : decide (List.length x.1 <= 4294967296) = true := hx
  simp only [hx, cond_true, Qb8])⟩
theorem s_bn : C_bn (fun x => decide (List.length x.1 <= 4294967296)) (fun x => (List.all x.1 decOk, ())) := S_bn s_bm fun x hx => ⟨0, (ev_bn 0 x.1).trans (by
  have hx : decide (List.length x.1 <= 4294967296) = true := hx
  simp only [hx, cond_true, Qbl, Qcj])⟩

theorem s_bo : C_bo (fun _ => true) (fun x => (need x.1, ())) := S_bo fun x _ => ⟨0, (ev_bo 0 x.1).trans (by
  have key : ∀ c : Int, (bif (decide (c = (1 : Int))) then (some ((1 : Int), ())) else (bif (decide (c = (2 : Int))) then (some ((2 : Int), ())) else (some ((0 : Int), ())))) = some (need c, ()) := fun c => by
    unfold need
    by_cases h1 : c = 1
    · rw [decide_eq_true h1, if_pos h1]; rfl
    · rw [decide_eq_false h1, if_neg h1]
      by_cases h2 : c = 2
      · rw [decide_eq_true h2, if_pos h2]; rfl
      · rw [decide_eq_false h2, if_neg h2]; rfl
  exact key x.1)⟩
theorem s_ao : C_ao (fun _ => true) (fun x => (need x.1, ())) := S_ao fun x _ => ⟨0, (ev_ao 0 x.1).trans (by
  have key : ∀ c : Int, (bif (decide (c = (1 : Int))) then (some ((1 : Int), ())) else (bif (decide (c = (2 : Int))) then (some ((2 : Int), ())) else (some ((0 : Int), ())))) = some (need c, ()) := fun c => by
    unfold need
    by_cases h1 : c = 1
    · rw [decide_eq_true h1, if_pos h1]; rfl
    · rw [decide_eq_false h1, if_neg h1]
      by_cases h2 : c = 2
      · rw [decide_eq_true h2, if_pos h2]; rfl
      · rw [decide_eq_false h2, if_neg h2]; rfl
  exact key x.1)⟩

theorem p_bq (l : List MDec) (p : Int) (hl : inq l.length 1 100 = true) (ho : l.all decOk = true) (hp : inq p 0 3 = true) :
    r_bq (fun x => (inq x.1 x.2.1 x.2.2.1, ())) (fun x => (List.all x.1 decOk, ())) (fun x => decide (List.length x.1 <= 4294967296)) (fun x => (decAt x.1 x.2.1, ())) (fun x => (pw x.1, ())) (fun x => decide (x.1 <= 18)) (fun x => (near x.1 x.2.1, ())) (fun x => nrPre x.1 x.2.1) (l, p, ()) (l.length + 1) pt2 (h0_bq l p 0 (l.length : Int) ((0 : Nat) : Int) (0, 0)) = some (decMean l p, ()) := by
  obtain ⟨h1, h2⟩ := Qap.1 hl
  obtain ⟨h3, h4⟩ := Qap.1 hp
  have := Qj0 l (by omega) (fun c => (near (c * pw p) ((l.length : Int) * pw 3), p)) (fun k i c => r_bq (fun x => (inq x.1 x.2.1 x.2.2.1, ())) (fun x => (List.all x.1 decOk, ())) (fun x => decide (List.length x.1 <= 4294967296)) (fun x => (decAt x.1 x.2.1, ())) (fun x => (pw x.1, ())) (fun x => decide (x.1 <= 18)) (fun x => (near x.1 x.2.1, ())) (fun x => nrPre x.1 x.2.1) (l, p, ()) k pt2 (h0_bq l p c (l.length : Int) (i : Int) (0, 0))) (fun k c b1 b2 => ?_) (fun k i x r c hd hi b1 b2 => ?_)
  · refine this.trans ?_
    rw [ho]
    unfold decMean
    rw [hl, ho, hp, Qmy hl hp]; rfl
  · have hpw := pw_le h4
    have hpp := Qea p
    have p3 : pw 3 = 1000 := rfl
    have hpc : c * pw p <= 999900000000 /\ -999900000000 <= c * pw p := by
      rcases Qe5 h4 with e | e | e | e <;> rw [e] <;> omega
    rw [rd0_bq, Qad (Nat.le_refl _)]
    simp only [cond_false, p3]
    rw [decide_eq_true (show p <= 18 by omega), Qac (x := c * pw p) (by omega) (by omega), Qac (x := (l.length : Int) * 1000) (by omega) (by omega)]
    have hn : nrPre (c * pw p) ((l.length : Int) * 1000) = true := Qbu.2 ⟨⟨by omega, by omega⟩, by omega, by omega⟩
    rw [hn]; rfl
  · have hx : decOk x = true := List.all_eq_true.1 ho x (Qbt hd)
    have hb := Qfu hx
    rw [rd0_bq, Qae hi, Qaf hi, Qag (by omega), Qab hd, hx]
    have e : decAt x 3 = atR x 3 := by unfold decAt; rw [hx]; rfl
    simp only [e, cond_true]
    rw [Qac (by omega) (by omega)]
theorem s_bq : C_bq (fun x => decide (List.length x.1 <= 4294967296)) (fun x => (decMean x.1 x.2.1, ())) := S_bq s_iin s_bn s_bf s_bc s_be fun x hx => ⟨List.length x.1 + 1, (ev_bq _ x.1 x.2.1).trans (by
  have hx : decide (List.length x.1 <= 4294967296) = true := hx
  simp only [hx, cond_true]
  cases hl : inq (List.length x.1) 1 100
  · unfold decMean; rw [hl]; rfl
  · cases ho : List.all x.1 decOk
    · unfold decMean; rw [hl, ho]; rfl
    · cases hp : inq x.2.1 0 3
      · unfold decMean; rw [hl, ho, hp]; rfl
      · exact p_bq x.1 x.2.1 hl ho hp)⟩
theorem p_aq (l : List MDec) (p : Int) (hl : inq l.length 1 100 = true) (hp : inq p 0 3 = true) :
    r_aq (fun x => (inq x.1 x.2.1 x.2.2.1, ())) (fun x => (decOk x.1, ())) (fun x => (atR x.1 x.2.1, ())) (fun x => decOk x.1 && inq x.2.1 0 3) (fun x => (pw x.1, ())) (fun x => decide (x.1 <= 18)) (fun x => (near x.1 x.2.1, ())) (fun x => nrPre x.1 x.2.1) (l, p, ()) (l.length + 1) pt2 (h0_aq l p 0 ((0 : Nat) : Int) (0, 0)) = some (decMean l p, ()) := by
  obtain ⟨h1, h2⟩ := Qap.1 hl
  obtain ⟨h3, h4⟩ := Qap.1 hp
  have := Qj0 l (by omega) (fun c => (near c ((l.length : Int) * pw (3 - p)), p)) (fun k i c => r_aq (fun x => (inq x.1 x.2.1 x.2.2.1, ())) (fun x => (decOk x.1, ())) (fun x => (atR x.1 x.2.1, ())) (fun x => decOk x.1 && inq x.2.1 0 3) (fun x => (pw x.1, ())) (fun x => decide (x.1 <= 18)) (fun x => (near x.1 x.2.1, ())) (fun x => nrPre x.1 x.2.1) (l, p, ()) k pt2 (h0_aq l p c (i : Int) (0, 0))) (fun k c b1 b2 => ?_) (fun k i x r c hd hi b1 b2 => ?_)
  · refine this.trans ?_
    unfold decMean
    rw [hl, hp]
    cases l.all decOk <;> rfl
  · have hpw := pw_le (n := 3 - p) (by omega)
    have hpp := Qea (3 - p)
    have hpc : (l.length : Int) * pw (3 - p) <= 100000 /\ 1 <= (l.length : Int) * pw (3 - p) := by
      rcases Qe5 (n := 3 - p) (by omega) with e | e | e | e <;> rw [e] <;> omega
    rw [rd0_aq, Qad (Nat.le_refl _)]
    simp only [cond_false]
    rw [Qac (x := 3 - p) (by omega) (by omega), decide_eq_true (show 3 - p <= 18 by omega), Qac (x := (l.length : Int) * pw (3 - p)) (by omega) (by omega)]
    have hn : nrPre c ((l.length : Int) * pw (3 - p)) = true := Qbu.2 ⟨⟨by omega, by omega⟩, by omega, by omega⟩
    rw [hn]; rfl
  · rw [rd0_aq, Qae hi, Qaf hi, Qag (by omega), Qab hd]
    cases hx : decOk x
    · rfl
    · have hb := Qfu hx
      simp only [hx, in03, Bool.and_self, cond_true, cond_false]
      rw [Qac (by omega) (by omega)]
theorem s_aq : C_aq (fun x => decide (List.length x.1 <= 4294967296)) (fun x => (decMean x.1 x.2.1, ())) := S_aq s_ah s_aj s_al s_ai s_ak fun x hx => ⟨List.length x.1 + 1, (ev_aq _ x.1 x.2.1).trans (by
  have key : ∀ (l : List MDec) (p : Int) (X : Option (MDec × Unit)), (inq l.length 1 100 = true -> inq p 0 3 = true -> X = some (decMean l p, ())) -> (bif (decide ((l.length : Int) = (0 : Int))) then (some (((0 : Int), (0 : Int)), ())) else (bif (decide ((100 : Int) < (l.length : Int))) then (some (((0 : Int), (0 : Int)), ())) else (bif (bif inq p 0 3 then false else true) then (some (((0 : Int), (0 : Int)), ())) else X))) = some (decMean l p, ()) := fun l p X hX => by
    by_cases h0 : (l.length : Int) = 0
    · have : inq l.length 1 100 = false := by unfold inq; rw [decide_eq_false (by omega)]; rfl
      rw [decide_eq_true h0]; unfold decMean; rw [this]; rfl
    · by_cases h1 : (100 : Int) < (l.length : Int)
      · have : inq l.length 1 100 = false := by unfold inq; rw [decide_eq_false (show ¬ (l.length : Int) <= 100 by omega), Bool.and_false]
        rw [decide_eq_false h0, decide_eq_true h1]; unfold decMean; rw [this]; rfl
      · have hl : inq l.length 1 100 = true := Qap.2 ⟨by omega, by omega⟩
        rw [decide_eq_false h0, decide_eq_false h1]
        cases hp : inq p 0 3
        · unfold decMean; rw [hp, Bool.and_false, Bool.and_false]; rfl
        · exact hX hl hp
  exact key x.1 x.2.1 _ fun hl hp => p_aq x.1 x.2.1 hl hp)⟩

end Go.Proofs.YtmbmoenjhfkgkaaGreat

set_option linter.unusedVariables false
set_option linter.unusedSimpArgs false
namespace Go.Proofs.YtmbmoenjhfkgkaaGreat
open Go.Vm

theorem rdLmore {l : List MDec} (h : l ≠ []) : rdL (e := S_DecDec) l (0 : Int) = l.getD 0 (0, 0) := rfl
theorem Qob {l : List MDec} (h : l ≠ []) (ho : l.all decOk = true) : decOk (l.getD 0 (0, 0)) = true := by
  cases l with
  | nil => exact absurd rfl h
  | cons d r => exact List.all_eq_true.1 ho d List.mem_cons_self
theorem Qdi {t : MTst} : tlPre t = true ↔ tsPre t = true /\ (t.2.2.2.1 = 1 -> t.2.2.2.2 ≠ []) := by
  unfold tlPre
  simp only [Bool.and_eq_true, Bool.or_eq_true, Bool.not_eq_true', decide_eq_false_iff_not, List.isEmpty_eq_false_iff]
  exact ⟨fun h => ⟨h.1, fun e => h.2.resolve_left (fun hn => hn e)⟩, fun h => ⟨h.1, Classical.or_iff_not_imp_left.2 fun hn => h.2 (Classical.not_not.1 hn)⟩⟩
theorem Qop {l : List MDec} (h : l ≠ []) : (bif (decide ((0 : Int) <= (0 : Int))) then (decide ((0 : Int) < (l.length : Int))) else false) = true := by
  have : 0 < l.length := List.length_pos_iff.2 h
  exact Qae (i := 0) this

theorem p_tell {t : MTst} (h : tlPre t = true) (A B C : Option (MDec × Unit)) (hA : t.2.2.2.2 ≠ [] -> A = some (decAt (t.2.2.2.2.getD 0 (0, 0)) t.1.2.2.2, ())) (hB : B = some (decMean (t.2.2.1 :: t.2.2.2.2) t.1.2.2.2, ())) (hC : C = some (decAt t.2.2.1 t.1.2.2.2, ())) :
    (bif (decide (t.2.2.2.1 = (1 : Int))) then (bif (bif (decide ((0 : Int) <= (0 : Int))) then (decide ((0 : Int) < (t.2.2.2.2.length : Int))) else false) then A else none) else (bif (decide (t.2.2.2.1 = (2 : Int))) then (bif (fitL [t.2.2.1] t.2.2.2.2) then B else none) else C)) = some (tell t, ()) := by
  obtain ⟨h1, h2⟩ := Qdi.1 h
  obtain ⟨_, _, _, h3⟩ := Qbr.1 h1
  unfold tell
  by_cases c1 : t.2.2.2.1 = 1
  · rw [decide_eq_true c1, if_pos c1, Qop (h2 c1), hA (h2 c1)]; rfl
  · rw [decide_eq_false c1, if_neg c1]
    by_cases c2 : t.2.2.2.1 = 2
    · rw [decide_eq_true c2, if_pos c2, Qb3 (by simp; omega), hB]; rfl
    · rw [decide_eq_false c2, if_neg c2, hC]; rfl

theorem s_br : C_br (fun x => tlPre x.1) (fun x => (tell x.1, ())) := S_br s_bf s_bq fun x hx => ⟨0, (ev_br 0 x.1).trans (by
  have hx : tlPre x.1 = true := hx
  obtain ⟨_, _, _, h3⟩ := Qbr.1 (Qdi.1 hx).1
  refine p_tell hx _ _ _ (fun _ => rfl) ?_ rfl
  have : decide (List.length (List.append [x.1.2.2.1] x.1.2.2.2.2) <= 4294967296) = true := decide_eq_true (by
    show (x.1.2.2.1 :: x.1.2.2.2.2).length <= _
    rw [List.length_cons]; exact Nat.le_trans (Nat.succ_le_succ h3) (by decide))
  rw [this]; rfl)⟩
theorem s_ar : C_ar (fun x => tlPre x.1) (fun x => (tell x.1, ())) := S_ar s_al s_aq fun x hx => ⟨0, (ev_ar 0 x.1).trans (by
  have hx : tlPre x.1 = true := hx
  obtain ⟨g1, g2, g3, h3⟩ := Qbr.1 (Qdi.1 hx).1
  have hp := Qgw g1
  have hat : ∀ d, decOk d = true -> decAt d x.1.1.2.2.2 = atR d x.1.1.2.2.2 := fun d hd => by unfold decAt; rw [hd, hp]; rfl
  refine p_tell hx _ _ _ (fun hne => ?_) ?_ ?_
  · have ho := Qob hne g3
    have e : (decOk (rdL (e := S_DecDec) x.1.2.2.2.2 (0 : Int)) && inq x.1.1.2.2.2 0 3) = true := by rw [rdLmore hne, ho, hp]; rfl
    rw [hat _ ho]
    simp only [e, cond_true]; rfl
  · have : decide (List.length (List.append [x.1.2.2.1] x.1.2.2.2.2) <= 4294967296) = true := decide_eq_true (by
      show (x.1.2.2.1 :: x.1.2.2.2.2).length <= _
      rw [List.length_cons]; exact Nat.le_trans (Nat.succ_le_succ h3) (by decide))
    rw [this]; rfl
  · rw [hat _ g2]
    simp only [g2, hp, Bool.and_self, cond_true])⟩

theorem s_bs : C_bs (fun _ => true) (fun x => (!spcIn x.2.1.1 x.1, ())) := S_bs s_bp fun x _ => ⟨0, (ev_bs 0 x.1 x.2.1).trans (by simp only [Qbl])⟩
theorem s_bt : C_bt (fun x => decide (List.length x.1 <= 4294967296)) (fun x => (idxOf (fun d => !spcIn x.2.1.1.1 d) x.1 0, ())) := S_bt s_bs fun x hx => ⟨List.length x.1 + 1, (ev_bt _ x.1 x.2.1).trans (by
  have hx : List.length x.1 <= 4294967296 := of_decide_eq_true hx
  refine Qcn (α := MDec) x.1 (fun d => !spcIn x.2.1.1.1 d) (fun k i => r_bt (fun x => (!spcIn x.2.1.1 x.1, ())) (x.1, x.2.1, ()) k pt0 (h0_bt x.1 x.2.1 (List.length x.1 : Int) (i : Int))) (fun k => ?_) (fun k i y r hd hi => ?_)
  · rw [rd0_bt, Qad (Nat.le_refl _)]; rfl
  · rw [rd0_bt, Qae hi, Qaf hi, Qag (by omega), Qab hd]; rfl)⟩
theorem s_bu : C_bu (fun x => decide (List.length x.1 <= 4294967296)) (fun x => (List.any x.1 (fun d => !spcIn x.2.1.1.1 d), ())) := S_bu s_bt fun x hx => ⟨0, (ev_bu 0 x.1 x.2.1).trans (by
  have hx : decide (List.length x.1 <= 4294967296) = true := hx
  simp only [hx, cond_true, Qb8])⟩

theorem tl_of {t : MTst} (h : tsPre t = true) (hn : ¬ (t.2.2.2.2.length : Int) < need t.2.2.2.1) : tlPre t = true := by
  refine Qdi.2 ⟨h, fun e hne => ?_⟩
  rw [hne, e] at hn
  exact hn (by decide)

theorem p_state {t : MTst} (A : Option (Int × Unit)) (h3 : t.2.2.2.1 ≠ 3) (hA : ¬ (t.2.2.2.2.length : Int) < need t.2.2.2.1 -> A = some (if passes t = true then 3 else 4, ())) (h0 : t.2.2.2.1 ≠ 0) :
    (bif (decide ((t.2.2.2.2.length : Int) < need t.2.2.2.1)) then (some ((2 : Int), ())) else A) = some (stateOf t, ()) := by
  unfold stateOf
  rw [if_neg h0, if_neg h3]
  by_cases hn : (t.2.2.2.2.length : Int) < need t.2.2.2.1
  · rw [decide_eq_true hn, if_pos hn]; rfl
  · rw [decide_eq_false hn, if_neg hn, hA hn]; rfl

theorem s_bv : C_bv (fun x => tsPre x.1) (fun x => (stateOf x.1, ())) := S_bv s_bp s_bo s_br s_bu fun x hx => ⟨0, (ev_bv 0 x.1).trans (by
  have key : ∀ t : MTst, tsPre t = true -> t.2.2.2.1 ≠ 0 -> (bif (decide ((t.2.2.2.2.length : Int) < need t.2.2.2.1)) then (some ((2 : Int), ())) else (bif (bif (decide (t.2.2.2.1 = (3 : Int))) then false else true) then (bif tlPre t then (bif spcIn t.1 (tell t) then (bif decide (t.2.2.2.2.length <= 4294967296) then (bif (bif (t.2.2.2.2.any fun d => !spcIn t.1 d) then false else true) then (some ((3 : Int), ())) else (some ((4 : Int), ()))) else none) else (some ((4 : Int), ()))) else none) else (some ((4 : Int), ())))) = some (stateOf t, ()) := fun t ht h0 => by
    obtain ⟨_, _, _, h3⟩ := Qbr.1 ht
    by_cases c3 : t.2.2.2.1 = 3
    · have hn : ¬ (t.2.2.2.2.length : Int) < need t.2.2.2.1 := by rw [c3]; unfold need; simp
      unfold stateOf
      rw [if_neg h0, if_pos c3, decide_eq_false hn, decide_eq_true c3]; rfl
    · refine p_state _ c3 (fun hn => ?_) h0
      rw [decide_eq_false c3, tl_of ht hn, decide_eq_true (show t.2.2.2.2.length <= 4294967296 by omega)]
      simp only [Qbl, Qcj, cond_true]
      unfold passes
      cases spcIn t.1 (tell t) <;> cases t.2.2.2.2.all (spcIn t.1) <;> rfl
  have hx : tsPre x.1 = true := hx
  by_cases h0 : x.1.2.2.2.1 = 0
  · unfold stateOf
    rw [if_pos h0]
    simp only [decide_eq_true h0]
    cases spcIn x.1.1 x.1.2.2.1 <;> rfl
  · have := key x.1 hx h0
    simp only [decide_eq_false h0, cond_false]
    exact this)⟩

theorem s_as : C_as (fun x => tlPre x.1) (fun x => (passes x.1, ())) := S_as s_ap s_ar fun x hx => ⟨List.length x.1.2.2.2.2 + 1, (ev_as _ x.1).trans (by
  have hx : tlPre x.1 = true := hx
  obtain ⟨_, _, _, h3⟩ := Qbr.1 (Qdi.1 hx).1
  have h3 : List.length x.1.2.2.2.2 <= 2 := h3
  refine Qjy (α := MDec) x.1.2.2.2.2 (spcIn x.1.1) (spcIn x.1.1 (tell x.1)) (fun k i => r_as (fun x => (spcIn x.1 x.2.1, ())) (fun x => (tell x.1, ())) (fun x => tlPre x.1) (x.1, ()) k pt0 (h0_as x.1 (i : Int))) (fun k => ?_) (fun k i y r hd hi => ?_)
  · rw [rd0_as, Qad (Nat.le_refl _)]
    simp only [hx, cond_true, cond_false]
  · rw [rd0_as, Qae hi, Qaf hi, Qag (by omega), Qab hd]
    simp only [cond_true, Qbl, Qdt])⟩
theorem s_at : C_at (fun x => tsPre x.1) (fun x => (stateOf x.1, ())) := S_at s_ap s_ao s_as fun x hx => ⟨0, (ev_at 0 x.1).trans (by
  have hx : tsPre x.1 = true := hx
  by_cases h0 : x.1.2.2.2.1 = 0
  · unfold stateOf
    rw [if_pos h0]
    simp only [decide_eq_true h0]
    cases spcIn x.1.1 x.1.2.2.1 <;> rfl
  · simp only [decide_eq_false h0, cond_false]
    by_cases c3 : x.1.2.2.2.1 = 3
    · unfold stateOf
      rw [if_neg h0, if_pos c3, decide_eq_true c3]; rfl
    · simp only [decide_eq_false c3, cond_false]
      refine p_state (t := x.1) _ c3 (fun hn => ?_) h0
      simp only [tl_of hx hn, cond_true]
      cases passes x.1 <;> rfl)⟩

theorem p_okB (t : MTst) (A : Option (Bool × Unit)) (hA : t.2.1 ≠ 0 -> A = some (decide (t.2.1 = stateOf t) && (decide (t.2.2.2.1 = 0) || !spcIn t.1 t.2.2.1), ())) :
    (bif (decide (t.2.1 = (0 : Int))) then (bif (Sh.beq S_DecDec t.2.2.1 ((0 : Int), (0 : Int))) then (some ((decide (t.2.2.2.1 = (0 : Int))), ())) else (some (false, ()))) else A) = some (tstOkB t, ()) := by
  rw [Qoa]
  unfold tstOkB
  by_cases h : t.2.1 = 0
  · rw [decide_eq_true h]
    cases same t.2.2.1 ((0 : Int), (0 : Int)) <;> rfl
  · rw [decide_eq_false h, hA h]; rfl
theorem p_okB2 (t : MTst) : (bif (decide (t.2.1 = stateOf t)) then (bif (decide (t.2.2.2.1 = (0 : Int))) then (some (true, ())) else (some ((bif spcIn t.1 t.2.2.1 then false else true), ()))) else (some (false, ()))) = some (decide (t.2.1 = stateOf t) && (decide (t.2.2.2.1 = 0) || !spcIn t.1 t.2.2.1), ()) := by
  cases decide (t.2.1 = stateOf t) <;> cases decide (t.2.2.2.1 = 0) <;> cases spcIn t.1 t.2.2.1 <;> rfl
theorem s_bw : C_bw (fun x => decide (List.length x.1.2.2.2.2 <= 4294967296)) (fun x => (tstOk x.1, ())) := S_bw s_bj s_bd s_bn s_iin s_bo s_bv s_bp fun x hx => ⟨0, (ev_bw 0 x.1).trans (by
  have hx : decide (List.length x.1.2.2.2.2 <= 4294967296) = true := hx
  simp only [hx, cond_true]
  unfold tstOk
  cases hA : tstOkA x.1
  · have hA' := hA
    unfold tstOkA at hA'
    cases h1 : askOk x.1.1
    · rfl
    · cases h2 : decOk x.1.2.2.1
      · rfl
      · cases h3 : List.all x.1.2.2.2.2 decOk
        · rfl
        · cases h4 : inq x.1.2.2.2.1 0 3
          · rfl
          · rw [h1, h2, h3, h4] at hA'
            have h5 : need x.1.2.2.2.1 < (List.length x.1.2.2.2.2 : Int) := Int.not_le.1 (of_decide_eq_false hA')
            simp only [cond_false, decide_eq_true h5]; rfl
  · have hp := Qe7 hA
    unfold tstOkA at hA
    simp only [Bool.and_eq_true, decide_eq_true_eq] at hA
    obtain ⟨h1, h2, h3, h4, h5⟩ := hA
    simp only [h1, h2, h3, h4, decide_eq_false (Int.not_lt.2 h5), cond_true, cond_false, Bool.true_and]
    refine p_okB x.1 _ fun hs => ?_
    simp only [hp, cond_true]
    exact p_okB2 x.1)⟩
theorem s_au : C_au (fun _ => true) (fun x => (tstOk x.1, ())) := S_au s_an s_aj s_ah s_ao s_at s_ap fun x _ => ⟨List.length x.1.2.2.2.2 + 1, (ev_au _ x.1).trans (by
  have key : ∀ t : MTst, (bif (bif askOk t.1 then false else true) then (some (false, ())) else (bif (bif decOk t.2.2.1 then false else true) then (some (false, ())) else (bif (bif inq t.2.2.2.1 0 3 then false else true) then (some (false, ())) else (bif (decide (need t.2.2.2.1 < (t.2.2.2.2.length : Int))) then (some (false, ())) else
      (r_au (fun x => (askOk x.1, ())) (fun x => (decOk x.1, ())) (fun x => (inq x.1 x.2.1 x.2.2.1, ())) (fun x => (need x.1, ())) (fun x => (stateOf x.1, ())) (fun x => tsPre x.1) (fun x => (spcIn x.1 x.2.1, ())) (t, ()) (t.2.2.2.2.length + 1) pt1 (h0_au t ((0 : Nat) : Int))))))) = some (tstOk t, ()) := fun t => by
    unfold tstOk
    have hloop : askOk t.1 = true -> decOk t.2.2.1 = true -> inq t.2.2.2.1 0 3 = true -> (t.2.2.2.2.length : Int) <= need t.2.2.2.1 -> r_au (fun x => (askOk x.1, ())) (fun x => (decOk x.1, ())) (fun x => (inq x.1 x.2.1 x.2.2.1, ())) (fun x => (need x.1, ())) (fun x => (stateOf x.1, ())) (fun x => tsPre x.1) (fun x => (spcIn x.1 x.2.1, ())) (t, ()) (t.2.2.2.2.length + 1) pt1 (h0_au t ((0 : Nat) : Int)) = some (t.2.2.2.2.all decOk && tstOkB t, ()) := fun h1 h2 h4 h5 => by
      have h6 := Qkv t.2.2.2.1
      by_cases h3 : t.2.2.2.2.all decOk = true
      · have hp : tsPre t = true := Qbr.2 ⟨h1, h2, h3, by omega⟩
        refine Qjy (α := MDec) t.2.2.2.2 decOk (tstOkB t) (fun k i => r_au (fun x => (askOk x.1, ())) (fun x => (decOk x.1, ())) (fun x => (inq x.1 x.2.1 x.2.2.1, ())) (fun x => (need x.1, ())) (fun x => (stateOf x.1, ())) (fun x => tsPre x.1) (fun x => (spcIn x.1 x.2.1, ())) (t, ()) k pt1 (h0_au t (i : Int))) (fun k => ?_) (fun k i y r hd hi => ?_)
        · rw [rd0_au, Qad (Nat.le_refl _)]
          refine p_okB t _ fun hs => ?_
          simp only [hp, cond_true]
          exact p_okB2 t
        · rw [rd0_au, Qae hi, Qaf hi, Qag (by omega), Qab hd]
          simp only [cond_true, Qbl, Qdt]
      · have h3 : t.2.2.2.2.all decOk = false := Bool.eq_false_iff.2 h3
        have := Qaw (σ := Unit) t.2.2.2.2 (fun k i _ => r_au (fun x => (askOk x.1, ())) (fun x => (decOk x.1, ())) (fun x => (inq x.1 x.2.1 x.2.2.1, ())) (fun x => (need x.1, ())) (fun x => (stateOf x.1, ())) (fun x => tsPre x.1) (fun x => (spcIn x.1 x.2.1, ())) (t, ()) k pt1 (h0_au t (i : Int))) (fun l i _ => (false, ())) (fun i _ => (t.2.2.2.2.drop i).all decOk = false) (fun k s hs => by
          rw [List.drop_length] at hs; cases hs) (fun k i y r s hd hi hs => by
          cases hy : decOk y
          · refine .inl ?_
            show r_au _ _ _ _ _ _ _ _ _ _ _ = _
            rw [rd0_au, Qae hi, Qaf hi, Qag (by omega), Qab hd]
            simp only [hy]; rfl
          · refine .inr ⟨(), ?_, ?_, rfl⟩
            · rw [hd, List.all_cons, hy] at hs
              rw [Qio hd]; exact hs
            · show r_au _ _ _ _ _ _ _ _ _ _ _ = _
              rw [rd0_au, Qae hi, Qaf hi, Qag (by omega), Qab hd]
              simp only [hy]; rfl) t.2.2.2.2.length 0 () (by omega) (by simpa using h3)
        rw [h3]
        exact this
    unfold tstOkA
    cases h1 : askOk t.1
    · rfl
    · cases h2 : decOk t.2.2.1
      · rfl
      · cases h4 : inq t.2.2.2.1 0 3
        · simp only [Bool.false_and, Bool.and_false]; rfl
        · by_cases h5 : (t.2.2.2.2.length : Int) <= need t.2.2.2.1
          · rw [decide_eq_true h5, decide_eq_false (by omega)]
            refine (hloop h1 h2 h4 h5).trans ?_
            simp only [Bool.true_and, Bool.and_true]
          · rw [decide_eq_false h5, decide_eq_true (by omega)]
            simp only [Bool.and_false, Bool.false_and]; rfl
  exact key x.1)⟩

end Go.Proofs.YtmbmoenjhfkgkaaGreat

set_option linter.unusedVariables false
set_option linter.unusedSimpArgs false
namespace Go.Proofs.YtmbmoenjhfkgkaaGreat
open Go.Vm

theorem p_szLen (n : Nat) (l : Int) (h1 : n <= 9223372036854775807) (h2 : 0 <= l) (h3 : l <= 1048576) : (bif (decide ((w64 (l - (n : Int))) < (0 : Int))) then (some ((-1 : Int), ())) else (some ((w64 (l - (n : Int))), ()))) = some (if l < (n : Int) then -1 else l - (n : Int), ()) := by
  rw [Qac (by omega) (by omega)]
  by_cases h : l < n
  · rw [if_pos h, decide_eq_true (by omega)]; rfl
  · rw [if_neg h, decide_eq_false (by omega)]; rfl
theorem p_szPass (n : Nat) (l : Int) (h : 0 <= l) : (bif decide ((if l < (n : Int) then -1 else l - (n : Int)) < (0 : Int)) then (some ((-1 : Int), ())) else (some ((if l < (n : Int) then -1 else l - (n : Int)), ()))) = some ((if l < (n : Int) then -1 else l - (n : Int)), ()) := by
  by_cases h1 : l < (n : Int)
  · rw [if_pos h1]; rfl
  · rw [if_neg h1, decide_eq_false (by omega)]; rfl
/-- What is left behind so many. -/
def szN (n : Nat) (l : Int) : Int := if l < (n : Int) then -1 else l - (n : Int)
theorem s_a0 : C_a0 (fun x => okLen (List.length x.1) && inq x.2.1 0 1048576) (fun x => (szN (List.length x.1) x.2.1, ())) := S_a0 fun x hx => ⟨0, (ev_a0 0 x.1 x.2.1).trans (by
  have h := Bool.and_eq_true_iff.1 hx
  have h2 := Qap.1 h.2
  exact p_szLen _ _ (Qbv.1 h.1) h2.1 h2.2)⟩
theorem s_a1 : C_a1 (fun x => okLen (List.length x.1.2.2.2.2) && inq x.2.1 0 1048576) (fun x => (szN (List.length x.1.2.2.2.2) x.2.1, ())) := S_a1 s_a0 fun x hx => ⟨0, (ev_a1 0 x.1 x.2.1).trans (by
  have hx : (okLen (List.length x.1.2.2.2.2) && inq x.2.1 0 1048576) = true := hx
  simp only [hx, cond_true]
  exact p_szPass _ _ (Qap.1 (Bool.and_eq_true_iff.1 hx).2).1)⟩
theorem s_a8 : C_a8 (fun x => decide (List.length x.1 <= 4294967296)) (fun x => (x.1, ())) := S_a8 s_a6 fun x hx => ⟨List.length x.1 + 1, (ev_a8 _ x.1).trans (by
  have hx : List.length x.1 <= 4294967296 := of_decide_eq_true hx
  rw [p_make hx]
  refine (Qe6 (α := MDec) x.1 (fun y => y) (fun k i out => r_a8 (fun x => (x.1, ())) (x.1, ()) k pt1 (h0_a8 x.1 (i : Int) out)) (fun k out ho => ?_) (fun k i y r out hd hi ho => ?_) _ ?_).trans ?_
  · rw [rd0_a8, Qad (Nat.le_refl _)]; rfl
  · rw [rd0_a8, Qae hi, Qae (ho.symm ▸ hi), Qaf hi, Qag (by omega), Int.toNat_natCast, Qab hd]; rfl
  · rw [List.length_replicate]; exact Int.toNat_natCast _
  · rw [List.map_id'])⟩
theorem s_a9 : C_a9 (fun x => decide (List.length x.1.2.2.2.2 <= 4294967296)) (fun x => (x.1, ())) := S_a9 s_a7 s_a6 s_a8 fun x hx => ⟨0, (ev_a9 0 x.1).trans (by
  have hx : decide (List.length x.1.2.2.2.2 <= 4294967296) = true := hx
  rw [hx]; rfl)⟩
theorem s_cw : C_cw (fun x => decide (List.length x.1 <= 4294967296)) (fun x => (same x.1 x.2.1, ())) := S_cw s_cu fun x hx => ⟨List.length x.1 + 1, (ev_cw _ x.1 x.2.1).trans (p_eqS fun hl => by
  have hx : List.length x.1 <= 4294967296 := of_decide_eq_true hx
  refine Qf0 (α := MDec) x.1 x.2.1 hl (fun k i => r_cw (fun x => (same x.1 x.2.1, ())) (x.1, x.2.1, ()) k pt1 (h0_cw x.1 x.2.1 (i : Int))) (fun k => ?_) (fun k i y z r r' hd hd' hi hi' => ?_)
  · rw [rd0_cw, Qad (Nat.le_refl _)]; rfl
  · rw [rd0_cw, Qae hi, Qae hi', Qaf hi, Qag (by omega), Qab hd, Qab hd', Qbl, Qdt]; rfl)⟩
theorem s_cx : C_cx (fun x => decide (List.length x.1.2.2.2.2 <= 4294967296)) (fun x => (same x.1 x.2.1, ())) := S_cx s_cv s_cu s_cw fun x hx => ⟨0, (ev_cx 0 x.1 x.2.1).trans (by
  have hx : decide (List.length x.1.2.2.2.2 <= 4294967296) = true := hx
  simp only [hx, cond_true, Qbl, Qdt, Qby, Qbz, Qcd, Qa0, Bool.and_true]
  refine congrArg (fun b => some (b, ())) ?_
  rw [Qax, Qax, Qax, Qax])⟩

theorem s_bx : C_bx (fun _ => true) (fun x => (inq x.1 1 5, ())) := S_bx s_iin fun x _ => ⟨0, ev_bx 0 x.1⟩
end Go.Proofs.YtmbmoenjhfkgkaaGreat

set_option linter.unusedVariables false
set_option linter.unusedSimpArgs false
namespace Go.Proofs.YtmbmoenjhfkgkaaGreat
open Go.Vm
theorem Qoc {S : Sh} {l : List S.den} {i : Nat} {x : S.den} (h : i < l.length) : rdL (e := S) (l.set i x) (i : Int) = x := by
  unfold rdL
  rw [Int.toNat_natCast, List.getD_eq_getElem?_getD, List.getElem?_set_self h]; rfl
theorem s_d3 : C_d3 (fun x => mkPre (szL (fun _ => 2)) x.1 x.2.1) (fun x => ((markL mkDec x.1 x.2.1).2, ((markL mkDec x.1 x.2.1).1, ()))) := S_d3 fun x hx => ⟨List.length x.1 + 1, (ev_d3 _ x.1 x.2.1).trans (by
  obtain ⟨h1, h2⟩ := Qan.1 hx
  have hl : List.length x.1 <= szL (fun _ => 2) x.1 := Qce (fun _ => by decide) x.1
  refine Qej (α := MDec) (mk := mkDec) (sz := fun _ => 2) Qc5.go x.1 4294967296 (fun c out => some (c, (out, ()))) (fun k i c out => r_d3 (x.1, x.2.1, ()) k pt0 (h0_d3 x.1 x.2.1 c (i : Int) out)) (fun k c out ho => ?_) (fun k i y r c out hd hi ho h0 hB => ?_) x.2.1 h1 h2
  · rw [rd0_d3]
    try simp only [lt_eq]
    rw [Qad (show out.length <= List.length x.1 by omega)]; rfl
  · have hi' : i < out.length := by omega
    have hB : c + 2 <= 4294967296 := hB
    rw [rd0_d3]
    have hr : ∀ y : MDec, rdL (e := S_DecDec) (out.set i y) (i : Int) = y := fun y => Qoc hi'
    have h0i : decide ((0 : Int) <= (i : Int)) = true := decide_eq_true (by omega)
    simp only [lt_eq, Int.toNat_natCast, List.length_set, hr, List.set_set, h0i, Qaf hi', cond_true, Qag (show i <= 4294967296 by omega)]
    rw [Qac (x := c + 1) (by omega) (by omega), Qac (x := c + 1 + 1) (by omega) (by omega)]
    rfl)⟩
theorem s_d8 : C_d8 (fun x => mkPre (szL (fun _ => 2)) x.1 x.2.1) (fun x => (hdOf (markL mkDec) x.1 x.2.1, ())) := S_d8 fun x hx => ⟨List.length x.1 + 1, (ev_d8 _ x.1 x.2.1).trans (by
  obtain ⟨h1, h2⟩ := Qan.1 hx
  have hl : List.length x.1 <= szL (fun _ => 2) x.1 := Qce (fun _ => by decide) x.1
  refine Qek (α := MDec) (mk := mkDec) (sz := fun _ => 2) Qc5 x.1 4294967296 (fun k i c => r_d8 (x.1, x.2.1, ()) k pt0 (h0_d8 x.1 x.2.1 c (i : Int))) (fun k c => ?_) (fun k i y r c hd hi h0 hB => ?_) x.2.1 h1 h2
  · rw [rd0_d8]
    try simp only [lt_eq]
    rw [Qad (Nat.le_refl _)]; rfl
  · have hB : c + 2 <= 4294967296 := hB
    rw [rd0_d8]
    have h0i : decide ((0 : Int) <= (i : Int)) = true := decide_eq_true (by omega)
    simp only [lt_eq, h0i, Qaf hi, cond_true, Qag (show i <= 4294967296 by omega), Qab hd]
    rw [Qac (x := c + 1) (by omega) (by omega), Qac (x := c + 1 + 1) (by omega) (by omega)]
    unfold mkDec
    simp only [Qdu, Qa0]
    cases same y.1 c <;> cases same y.2 (c + 1) <;> rfl)⟩
end Go.Proofs.YtmbmoenjhfkgkaaGreat

set_option linter.unusedVariables false
set_option linter.unusedSimpArgs false
namespace Go.Proofs.YtmbmoenjhfkgkaaGreat
open Go.Vm
def smT (t : MTst) : Bool := decide (t.2.2.2.2.length <= 4294967296)
theorem p_clone {α : Type} (l : List α) (hl : l.length <= 4294967296) : (bif (List.isEmpty l) then (agree (some (([] : List α), ())) (bif (fitL [] l) then (some ((List.append [] l), ())) else none)) else (bif (fitL [] l) then (some ((List.append [] l), ())) else none)) = some (l, ()) := by
  rw [Qb3 (by show 0 + l.length <= _; omega)]
  cases l with
  | nil => unfold agree; exact if_pos rfl
  | cons a r => rfl
theorem p_turn {β : Type} (a b c : Bool) (A B : β) : (bif (bif a then false else true) then B else (bif (bif b then false else true) then B else (bif (bif c then false else true) then B else A))) = bif a && (b && c) then A else B := by
  cases a <;> cases b <;> cases c <;> rfl
theorem s_b6 : C_b6 (fun x => decide (List.length x.1 <= 4294967296)) (fun x => (x.1, ())) := S_b6 fun x hx => ⟨0, (ev_b6 0 x.1).trans (p_clone (α := MDec) x.1 (of_decide_eq_true hx))⟩
theorem s_b7 : C_b7 (fun x => smT x.1) (fun x => (x.1, ())) := S_b7 s_b6 fun x hx => ⟨0, (ev_b7 0 x.1).trans (cl_eq hx)⟩
theorem s_af : C_af (fun x => smT x.1) (fun x => (x.1, ())) := S_af fun x hx => ⟨0, (ev_af 0 x.1).trans (by
  rw [Qb3 (by have : List.length x.1.2.2.2.2 <= 4294967296 := of_decide_eq_true hx; show 0 + List.length x.1.2.2.2.2 <= _; omega)]; rfl)⟩
theorem s_ci : C_ci (fun _ => true) (fun x => (((x.1.1, x.1.2.1, x.2.1, x.1.2.2.2) : MTst), ())) := S_ci fun x _ => ⟨0, ev_ci 0 x.1 x.2.1⟩
theorem s_cl : C_cl (fun _ => true) (fun x => (((x.1.1, x.1.2.1, x.1.2.2.1, x.2.1, x.1.2.2.2.2) : MTst), ())) := S_cl fun x _ => ⟨0, ev_cl 0 x.1 x.2.1⟩
theorem s_co : C_co (fun x => decide (List.length x.1.2.2.2.2 + 1 <= 4294967296)) (fun x => (((x.1.1, x.1.2.1, x.1.2.2.1, x.1.2.2.2.1, x.1.2.2.2.2 ++ [x.2.1]) : MTst), ())) := S_co fun x hx => ⟨0, (ev_co 0 x.1 x.2.1).trans (by rw [Qb3 (of_decide_eq_true hx)]; rfl)⟩
theorem Qm7 {t : MTst} (h : tstOk t = true) : t.2.2.2.2.length <= 2 := (Qbr.1 (Qe7 (Qbe.1 h).1)).2.2.2
theorem s_cj : C_cj (fun x => smT x.1 && (decide (x.2.1 = 0) && (x.2.2.1 == decOk x.2.2.2.1.1))) (fun x => ((tstPut x.1 x.2.2.2.1.1).1, (tstPut x.1 x.2.2.2.1.1).2, ())) := S_cj s_b7 s_bw s_ci s_bv fun x hx => ⟨0, (ev_cj 0 x.1 x.2.1 x.2.2.1 x.2.2.2.1).trans (by
  simp only [Bool.and_eq_true, decide_eq_true_eq, beq_iff_eq] at hx
  obtain ⟨t, st, may, ⟨v, u⟩, u2⟩ := x
  obtain ⟨hx, h4, h5⟩ := hx
  change MTst at t
  change MDec at v
  change st = (0 : Int) at h4
  change may = decOk v at h5
  subst h4 h5
  have hx : smT t = true := hx
  have hx' : decide (List.length t.2.2.2.2 <= 4294967296) = true := hx
  show cl (smT t) (t, ()) _ = some ((tstPut t v).1, (tstPut t v).2, ())
  simp only [cl, hx, hx', cond_true]
  cases hc : (tstOk t && (decide (t.2.1 = (0 : Int)) && decOk v))
  · have e : tstPut t v = (t, false) := by unfold tstPut; rw [hc]; rfl
    rw [e]
    have := p_turn (tstOk t) (decide (t.2.1 = (0 : Int))) (decOk v) (none : Option (MTst × Bool × Unit)) (some (t, false, ()))
    rw [hc] at this
    cases h1 : tstOk t
    · rfl
    · cases h2 : decide (t.2.1 = (0 : Int))
      · rfl
      · cases h3 : decOk v
        · rfl
        · rw [h1, h2, h3] at hc; cases hc
  · have e : tstPut t v = (mkT t.1 v t.2.2.2.1 t.2.2.2.2, true) := by unfold tstPut; rw [hc]; rfl
    rw [e]
    simp only [Bool.and_eq_true, decide_eq_true_eq] at hc
    obtain ⟨h1, h2, h3⟩ := hc
    have hp : tsPre ((t.1, t.2.1, v, t.2.2.2) : MTst) = true := Qdv (Qj4 h1 h2 h3)
    simp only [h1, decide_eq_true h2, h3, hp, cond_true, cond_false]
    rfl)⟩
theorem s_ck : C_ck (fun x => smT x.1) (fun x => ((tstPut x.1 x.2.1).1, (tstPut x.1 x.2.1).2, ())) := S_ck s_bd s_cj fun x hx => ⟨0, (ev_ck 0 x.1 x.2.1).trans (cl_eq (by
  have hx : smT x.1 = true := hx
  show (smT x.1 && (decide ((0 : Int) = 0) && (decOk x.2.1 == decOk x.2.1))) = true
  rw [hx, beq_self_eq_true]; rfl))⟩
theorem s_b1 : C_b1 (fun x => smT x.1) (fun x => ((tstPut x.1 x.2.1).1, (tstPut x.1 x.2.1).2, ())) := S_b1 s_af s_au s_aj s_at fun x hx => ⟨0, (ev_b1 0 x.1 x.2.1).trans (by
  obtain ⟨t, v, u⟩ := x
  change MTst at t
  change MDec at v
  have hx : smT t = true := hx
  show cl (smT t) (t, ()) _ = some ((tstPut t v).1, (tstPut t v).2, ())
  simp only [cl, hx, cond_true]
  cases hc : (tstOk t && (decide (t.2.1 = (0 : Int)) && decOk v))
  · have e : tstPut t v = (t, false) := by unfold tstPut; rw [hc]; rfl
    rw [e]
    cases h1 : tstOk t
    · rfl
    · cases h2 : decide (t.2.1 = (0 : Int))
      · cases decOk v <;> rfl
      · cases h3 : decOk v
        · rfl
        · rw [h1, h2, h3] at hc; cases hc
  · have e : tstPut t v = (mkT t.1 v t.2.2.2.1 t.2.2.2.2, true) := by unfold tstPut; rw [hc]; rfl
    rw [e]
    simp only [Bool.and_eq_true, decide_eq_true_eq] at hc
    obtain ⟨h1, h2, h3⟩ := hc
    have hp : tsPre ((t.1, t.2.1, v, t.2.2.2) : MTst) = true := Qdv (Qj4 h1 h2 h3)
    simp only [h1, decide_eq_true h2, h3, hp, cond_true, cond_false]
    rfl)⟩
theorem s_cm : C_cm (fun x => smT x.1 && (decide (x.2.1 = 1) && (x.2.2.1 == inq x.2.2.2.1.1 1 3))) (fun x => ((tstCause x.1 x.2.2.2.1.1).1, (tstCause x.1 x.2.2.2.1.1).2, ())) := S_cm s_b7 s_bw s_cl s_bv fun x hx => ⟨0, (ev_cm 0 x.1 x.2.1 x.2.2.1 x.2.2.2.1).trans (by
  simp only [Bool.and_eq_true, decide_eq_true_eq, beq_iff_eq] at hx
  obtain ⟨t, st, may, ⟨v, u⟩, u2⟩ := x
  obtain ⟨hx, h4, h5⟩ := hx
  change MTst at t
  change Int at v
  change st = (1 : Int) at h4
  change may = inq v 1 3 at h5
  subst h4 h5
  have hx : smT t = true := hx
  have hx' : decide (List.length t.2.2.2.2 <= 4294967296) = true := hx
  show cl (smT t) (t, ()) _ = some ((tstCause t v).1, (tstCause t v).2, ())
  simp only [cl, hx, hx', cond_true]
  cases hc : (tstOk t && (decide (t.2.1 = (1 : Int)) && inq v 1 3))
  · have e : tstCause t v = (t, false) := by unfold tstCause; rw [hc]; rfl
    rw [e]
    have := p_turn (tstOk t) (decide (t.2.1 = (1 : Int))) (inq v 1 3) (none : Option (MTst × Bool × Unit)) (some (t, false, ()))
    rw [hc] at this
    cases h1 : tstOk t
    · rfl
    · cases h2 : decide (t.2.1 = (1 : Int))
      · rfl
      · cases h3 : inq v 1 3
        · rfl
        · rw [h1, h2, h3] at hc; cases hc
  · have e : tstCause t v = (mkT t.1 t.2.2.1 v t.2.2.2.2, true) := by unfold tstCause; rw [hc]; rfl
    rw [e]
    simp only [Bool.and_eq_true, decide_eq_true_eq] at hc
    obtain ⟨h1, h2, h3⟩ := hc
    have hp : tsPre ((t.1, t.2.1, t.2.2.1, v, t.2.2.2.2) : MTst) = true := Qdv (Qgx h1 h2 h3)
    simp only [h1, decide_eq_true h2, h3, hp, cond_true, cond_false]
    rfl)⟩
theorem s_cn : C_cn (fun x => smT x.1) (fun x => ((tstCause x.1 x.2.1).1, (tstCause x.1 x.2.1).2, ())) := S_cn s_iin s_cm fun x hx => ⟨0, (ev_cn 0 x.1 x.2.1).trans (cl_eq (by
  have hx : smT x.1 = true := hx
  show (smT x.1 && (decide ((1 : Int) = 1) && (inq x.2.1 1 3 == inq x.2.1 1 3))) = true
  rw [hx, beq_self_eq_true]; rfl))⟩
theorem s_b2 : C_b2 (fun x => smT x.1) (fun x => ((tstCause x.1 x.2.1).1, (tstCause x.1 x.2.1).2, ())) := S_b2 s_af s_au s_ah s_at fun x hx => ⟨0, (ev_b2 0 x.1 x.2.1).trans (by
  obtain ⟨t, v, u⟩ := x
  change MTst at t
  change Int at v
  have hx : smT t = true := hx
  show cl (smT t) (t, ()) _ = some ((tstCause t v).1, (tstCause t v).2, ())
  simp only [cl, hx, cond_true]
  cases hc : (tstOk t && (decide (t.2.1 = (1 : Int)) && inq v 1 3))
  · have e : tstCause t v = (t, false) := by unfold tstCause; rw [hc]; rfl
    rw [e]
    cases h1 : tstOk t
    · rfl
    · cases h2 : decide (t.2.1 = (1 : Int))
      · cases inq v 1 3 <;> rfl
      · cases h3 : inq v 1 3
        · rfl
        · rw [h1, h2, h3] at hc; cases hc
  · have e : tstCause t v = (mkT t.1 t.2.2.1 v t.2.2.2.2, true) := by unfold tstCause; rw [hc]; rfl
    rw [e]
    simp only [Bool.and_eq_true, decide_eq_true_eq] at hc
    obtain ⟨h1, h2, h3⟩ := hc
    have hp : tsPre ((t.1, t.2.1, t.2.2.1, v, t.2.2.2.2) : MTst) = true := Qdv (Qgx h1 h2 h3)
    simp only [h1, decide_eq_true h2, h3, hp, cond_true, cond_false]
    rfl)⟩
theorem s_cp : C_cp (fun x => smT x.1 && (decide (x.2.1 = 2) && (x.2.2.1 == decOk x.2.2.2.1.1))) (fun x => ((tstMore x.1 x.2.2.2.1.1).1, (tstMore x.1 x.2.2.2.1.1).2, ())) := S_cp s_b7 s_bw s_co s_bv fun x hx => ⟨0, (ev_cp 0 x.1 x.2.1 x.2.2.1 x.2.2.2.1).trans (by
  simp only [Bool.and_eq_true, decide_eq_true_eq, beq_iff_eq] at hx
  obtain ⟨t, st, may, ⟨v, u⟩, u2⟩ := x
  obtain ⟨hx, h4, h5⟩ := hx
  change MTst at t
  change MDec at v
  change st = (2 : Int) at h4
  change may = decOk v at h5
  subst h4 h5
  have hx : smT t = true := hx
  have hx' : decide (List.length t.2.2.2.2 <= 4294967296) = true := hx
  show cl (smT t) (t, ()) _ = some ((tstMore t v).1, (tstMore t v).2, ())
  simp only [cl, hx, hx', cond_true]
  cases hc : (tstOk t && (decide (t.2.1 = (2 : Int)) && decOk v))
  · have e : tstMore t v = (t, false) := by unfold tstMore; rw [hc]; rfl
    rw [e]
    have := p_turn (tstOk t) (decide (t.2.1 = (2 : Int))) (decOk v) (none : Option (MTst × Bool × Unit)) (some (t, false, ()))
    rw [hc] at this
    cases h1 : tstOk t
    · rfl
    · cases h2 : decide (t.2.1 = (2 : Int))
      · rfl
      · cases h3 : decOk v
        · rfl
        · rw [h1, h2, h3] at hc; cases hc
  · have e : tstMore t v = (mkT t.1 t.2.2.1 t.2.2.2.1 (t.2.2.2.2 ++ [v]), true) := by unfold tstMore; rw [hc]; rfl
    rw [e]
    simp only [Bool.and_eq_true, decide_eq_true_eq] at hc
    obtain ⟨h1, h2, h3⟩ := hc
    have hl := Qm7 h1
    have hl' : decide (List.length t.2.2.2.2 + 1 <= 4294967296) = true := decide_eq_true (by omega)
    have hf : fitL t.2.2.2.2 [v] = true := Qb3 (by show t.2.2.2.2.length + 1 <= _; omega)
    have hp : tsPre ((t.1, t.2.1, t.2.2.1, t.2.2.2.1, t.2.2.2.2 ++ [v]) : MTst) = true := Qdv (Qh7 h1 h2 h3)
    simp only [h1, decide_eq_true h2, h3, hp, hl', cond_true, cond_false]
    rfl)⟩
theorem s_cq : C_cq (fun x => smT x.1) (fun x => ((tstMore x.1 x.2.1).1, (tstMore x.1 x.2.1).2, ())) := S_cq s_bd s_cp fun x hx => ⟨0, (ev_cq 0 x.1 x.2.1).trans (cl_eq (by
  have hx : smT x.1 = true := hx
  show (smT x.1 && (decide ((2 : Int) = 2) && (decOk x.2.1 == decOk x.2.1))) = true
  rw [hx, beq_self_eq_true]; rfl))⟩
theorem s_b3 : C_b3 (fun x => smT x.1) (fun x => ((tstMore x.1 x.2.1).1, (tstMore x.1 x.2.1).2, ())) := S_b3 s_af s_au s_aj s_at fun x hx => ⟨0, (ev_b3 0 x.1 x.2.1).trans (by
  obtain ⟨t, v, u⟩ := x
  change MTst at t
  change MDec at v
  have hx : smT t = true := hx
  show cl (smT t) (t, ()) _ = some ((tstMore t v).1, (tstMore t v).2, ())
  simp only [cl, hx, cond_true]
  cases hc : (tstOk t && (decide (t.2.1 = (2 : Int)) && decOk v))
  · have e : tstMore t v = (t, false) := by unfold tstMore; rw [hc]; rfl
    rw [e]
    cases h1 : tstOk t
    · rfl
    · cases h2 : decide (t.2.1 = (2 : Int))
      · cases decOk v <;> rfl
      · cases h3 : decOk v
        · rfl
        · rw [h1, h2, h3] at hc; cases hc
  · have e : tstMore t v = (mkT t.1 t.2.2.1 t.2.2.2.1 (t.2.2.2.2 ++ [v]), true) := by unfold tstMore; rw [hc]; rfl
    rw [e]
    simp only [Bool.and_eq_true, decide_eq_true_eq] at hc
    obtain ⟨h1, h2, h3⟩ := hc
    have hl := Qm7 h1
    have hl' : decide (List.length t.2.2.2.2 + 1 <= 4294967296) = true := decide_eq_true (by omega)
    have hf : fitL t.2.2.2.2 [v] = true := Qb3 (by show t.2.2.2.2.length + 1 <= _; omega)
    have hp : tsPre ((t.1, t.2.1, t.2.2.1, t.2.2.2.1, t.2.2.2.2 ++ [v]) : MTst) = true := Qdv (Qh7 h1 h2 h3)
    simp only [h1, decide_eq_true h2, h3, hp, hf, cond_true, cond_false]
    exact (congrArg (fun b => bif b then _ else none) hp).trans rfl)⟩

end Go.Proofs.YtmbmoenjhfkgkaaGreat

set_option linter.unusedVariables false
set_option linter.unusedSimpArgs false
namespace Go.Proofs.YtmbmoenjhfkgkaaGreat
open Go.Vm
theorem s_by : C_by (fun _ => true) (fun x => (signs x.1, ())) := S_by fun x _ => ⟨0, (ev_by 0 x.1).trans (by
  have key : ∀ c : Int, (bif (decide (c = (2 : Int))) then (some (true, ())) else (some ((decide (c = (3 : Int))), ()))) = some (signs c, ()) := fun c => by
    unfold signs; cases decide (c = 2) <;> rfl
  exact key x.1)⟩
theorem s_bz : C_bz (fun _ => true) (fun x => (sigOk x.1, ())) := S_bz s_bx s_by s_iin fun x _ => ⟨0, (ev_bz 0 x.1).trans (by
  have key : ∀ s : MSig, (bif inq s.1 1 5 then (bif signs s.2.1 then some (inq s.2.2 0 999982, ()) else some (false, ())) else some (false, ())) = some (sigOk s, ()) := fun s => by
    unfold sigOk; cases inq s.1 1 5 <;> cases signs s.2.1 <;> rfl
  exact key x.1)⟩
theorem s_c0 : C_c0 (fun _ => true) (fun x => (!sigOk x.1, ())) := S_c0 s_bz fun x _ => ⟨0, (ev_c0 0 x.1).trans (by simp only [Qbl])⟩
theorem s_c3 : C_c3 (fun _ => true) (fun x => (!passed x.1, ())) := S_c3 fun x _ => ⟨0, (ev_c3 0 x.1).trans (by simp only [Qbl]; rfl)⟩

theorem s_c1 : C_c1 (fun x => decide (List.length x.1 <= 4294967296)) (fun x => (idxOf (fun d : MSig => !sigOk d) x.1 0, ())) := S_c1 s_c0 fun x hx => ⟨List.length x.1 + 1, (ev_c1 _ x.1 x.2.1).trans (by
  have hx : List.length x.1 <= 4294967296 := of_decide_eq_true hx
  refine Qcn (α := MSig) x.1 (fun d => !sigOk d) (fun k i => r_c1 (fun x => (!sigOk x.1, ())) (fun _ => true) (x.1, x.2.1, ()) k pt0 (h0_c1 x.1 x.2.1 (List.length x.1 : Int) (i : Int))) (fun k => ?_) (fun k i y r hd hi => ?_)
  · rw [rd0_c1, Qad (Nat.le_refl _)]; rfl
  · rw [rd0_c1, Qae hi, Qaf hi, Qag (by omega), Qab hd]; rfl)⟩
theorem s_c2 : C_c2 (fun x => decide (List.length x.1 <= 4294967296)) (fun x => (List.any x.1 (fun d : MSig => !sigOk d), ())) := S_c2 s_c1 fun x hx => ⟨0, (ev_c2 0 x.1 x.2.1).trans (by
  have hx : decide (List.length x.1 <= 4294967296) = true := hx
  simp only [cl, hx, cond_true, Qb8])⟩
theorem s_c4 : C_c4 (fun x => decide (List.length x.1 <= 4294967296)) (fun x => (idxOf (fun d : MTst => !passed d) x.1 0, ())) := S_c4 s_c3 fun x hx => ⟨List.length x.1 + 1, (ev_c4 _ x.1 x.2.1).trans (by
  have hx : List.length x.1 <= 4294967296 := of_decide_eq_true hx
  refine Qcn (α := MTst) x.1 (fun d => !passed d) (fun k i => r_c4 (fun x => (!passed x.1, ())) (x.1, x.2.1, ()) k pt0 (h0_c4 x.1 x.2.1 (List.length x.1 : Int) (i : Int))) (fun k => ?_) (fun k i y r hd hi => ?_)
  · rw [rd0_c4, Qad (Nat.le_refl _)]; rfl
  · rw [rd0_c4, Qae hi, Qaf hi, Qag (by omega), Qab hd]; rfl)⟩
theorem s_c5 : C_c5 (fun x => decide (List.length x.1 <= 4294967296)) (fun x => (List.any x.1 (fun d : MTst => !passed d), ())) := S_c5 s_c4 fun x hx => ⟨0, (ev_c5 0 x.1 x.2.1).trans (by
  have hx : decide (List.length x.1 <= 4294967296) = true := hx
  simp only [cl, hx, cond_true, Qb8])⟩
theorem s_c6 : C_c6 (fun x => decide (List.length x.1 <= 4294967296)) (fun x => (idxOf (fun d : Bool => x.2.1 == d) x.1 0, ())) := S_c6 fun x hx => ⟨List.length x.1 + 1, (ev_c6 _ x.1 x.2.1).trans (by
  have hx : List.length x.1 <= 4294967296 := of_decide_eq_true hx
  refine Qcn (α := Bool) x.1 (fun d => x.2.1 == d) (fun k i => r_c6 (x.1, x.2.1, ()) k pt0 (h0_c6 x.1 x.2.1 (List.length x.1 : Int) (i : Int))) (fun k => ?_) (fun k i y r hd hi => ?_)
  · rw [rd0_c6, Qad (Nat.le_refl _)]; rfl
  · rw [rd0_c6, Qae hi, Qaf hi, Qag (by omega), Qab hd]; rfl)⟩
theorem s_c7 : C_c7 (fun x => decide (List.length x.1 <= 4294967296)) (fun x => (List.any x.1 (fun d : Bool => x.2.1 == d), ())) := S_c7 s_c6 fun x hx => ⟨0, (ev_c7 0 x.1 x.2.1).trans (by
  have hx : decide (List.length x.1 <= 4294967296) = true := hx
  simp only [cl, hx, cond_true, Qb8])⟩
theorem s_c8 : C_c8 (fun x => mixPre x.1 x.2.1) (fun x => (mixes x.1 x.2.1, ())) := S_c8 fun x hx => by
  obtain ⟨m, l, u⟩ := x
  change List Int at l
  obtain ⟨h1, h2⟩ := Qho.1 hx
  have h2 : List.length l <= 4294967296 := h2
  refine ⟨List.length l + 1, (ev_c8 _ m l).trans ?_⟩
  have := Qaw (σ := Int) l (fun k i c => r_c8 (m, l, ()) k pt0 (h0_c8 m l c (List.length l : Int) (i : Int))) (fun r i c => (mixes c r, ())) (fun i c => mkR c) (fun k c hc => by
    rw [rd0_c8, Qad (Nat.le_refl _)]; rfl) (fun k i y r c hd hi hc => by
    refine .inr ⟨mix c y, mix_r hc, ?_, rfl⟩
    rw [rd0_c8, Qae hi, Qaf hi, Qag (by omega), Qab hd, mix_w hc]; rfl) l.length 0 m (by omega) h1
  simpa using this
theorem Qm8 {m : Int} {l : List Int} (h : mkR m) (hl : l.length <= 4) : mixPre m l = true := Qho.2 ⟨h, by omega⟩
theorem Qeo : ∀ (l : List MDec) (i : Nat) (m : Int), foldI (fun _ m (v : MDec) => mix (mix m v.1) v.2) i m l = markMore m l
  | [], i, m => rfl
  | v :: r, i, m => Qeo r (i + 1) _
theorem Qfb : ∀ (l : List MTst) (i : Nat) (m : Int), foldI (fun _ m t => markTst m t) i m l = markTsts m l
  | [], i, m => rfl
  | v :: r, i, m => Qfb r (i + 1) _
theorem Qfc : ∀ (l : List Bool) (i : Nat) (m : Int), foldI (fun i m d => markDev m i d) i m l = markDevs i m l
  | [], i, m => rfl
  | v :: r, i, m => Qfc r (i + 1) _
theorem s_c9 : C_c9 (fun x => smB x.1) (fun x => (batMark x.1, ())) := S_c9 s_c8 fun x hx => by
  obtain ⟨b, u⟩ := x
  change MBat at b
  have hx : smB b = true := hx
  obtain ⟨h1, h2, h3, h4⟩ := Qa2.1 hx
  refine WithFuel.eq ?_
  show WithFuel (fun k => E_c9 (fun x => (mixes x.1 x.2.1, ())) (fun x => mixPre x.1 x.2.1) k (b, ())) _
  have ev := fun k => ev_c9 (g_c8 := fun x => (mixes x.1 x.2.1, ())) (p_c8 := fun x => mixPre x.1 x.2.1) k b
  have hp := fun (m : Int) (l : List Int) (h : mkR m) (hl : l.length <= 4) => Qm8 h hl
  simp only [ev, cl, hp _ _ one_r (show List.length [b.1] <= 4 from Nat.le_of_ble_eq_true rfl), cond_true]
  refine Qcw b.2.2.1 (fun _ m t => markTst m t) mkR (fun k i m => r_c9 (fun x => (mixes x.1 x.2.1, ())) (fun x => mixPre x.1 x.2.1) (b, ()) k pt1 (h0_c9 b m (List.length b.2.2.1 : Int) (i : Int))) _ (fun i s x hs => Qir hs) (mix 1 b.1) (mix_r one_r) (fun hr => ?_) (fun i t r m hd hi hm hk => ?_)
  · rw [Qfb] at hr ⊢
    have hdev := Qcw (P := fun v => v = (batMark b, ())) b.2.2.2.2.2 (fun i m d => markDev m i d) mkR (fun k i m => r_c9 (fun x => (mixes x.1 x.2.1, ())) (fun x => mixPre x.1 x.2.1) (b, ()) k pt2 (h2_c9 b m (List.length b.2.2.2.2.2 : Int) (i : Int))) (fun i s x hs => Qis hs) (markTsts (mix 1 b.1) b.2.2.1) hr (fun hr => ?_) (fun i d r m hd hi hm hk => ?_)
    · obtain ⟨k, hk⟩ := hdev
      refine ⟨k + 1, ?_⟩
      dsimp only
      rw [rd0_c9, lt_eq, Qad (Nat.le_refl _)]
      exact hk
    · rw [Qfc]
      refine Qiv 1 ?_
      dsimp only
      rw [rd2_c9, Qad (Nat.le_refl _)]; rfl
    · obtain ⟨k, v, hk, hv⟩ := hk
      refine ⟨k + 1, v, ?_, hv⟩
      dsimp only
      rw [rd2_c9, Qae hi, Qaf hi, Qag (by omega), Qab hd]
      have g1 := hp m [((i + 1 : Nat) : Int)] hm (Nat.le_of_ble_eq_true rfl)
      have g2 := hp (mix m ((i + 1 : Nat) : Int)) [77] (mix_r hm) (Nat.le_of_ble_eq_true rfl)
      have g2' : mixPre (mixes m [((i + 1 : Nat) : Int)]) [77] = true := g2
      simp only [cl, g1, g2', cond_true]
      cases d
      · exact hk
      · exact hk
  · have hmore := Qcw (P := fun v => v = (batMark b, ())) t.2.2.2.2 (fun _ m (v : MDec) => mix (mix m v.1) v.2) mkR (fun k j m => r_c9 (fun x => (mixes x.1 x.2.1, ())) (fun x => mixPre x.1 x.2.1) (b, ()) k pt5 (h1_c9 b m (List.length b.2.2.1 : Int) (i : Int) t.2.2.2.2 (List.length t.2.2.2.2 : Int) (j : Int))) (fun i s x hs => mix_r (mix_r hs)) (markHead m t) (Qe8 hm) (fun hr => ?_) (fun j v r' m' hd' hj hm' hk' => ?_)
    · obtain ⟨k, v, hk, hv⟩ := hmore
      refine ⟨k + 1, v, ?_, hv⟩
      dsimp only
      rw [rd0_c9, lt_eq, Qae hi, Qaf hi, Qab hd]
      have g1 := hp m [t.2.1, t.2.2.1.1, t.2.2.1.2, t.2.2.2.1] hm (Nat.le_of_ble_eq_true rfl)
      simp only [cl, g1, cond_true]
      exact hk
    · rw [Qeo]
      obtain ⟨k, v, hk, hv⟩ := hk
      refine ⟨k + 1, v, ?_, hv⟩
      dsimp only
      rw [rd1_c9, Qad (Nat.le_refl _), Qag (i := i) (by omega)]
      exact hk
    · obtain ⟨k, v', hk, hv⟩ := hk'
      refine ⟨k + 1, v', ?_, hv⟩
      have hlt : List.length t.2.2.2.2 <= 4294967296 := h2 t (Qbt hd)
      dsimp only
      rw [rd1_c9, Qae hj, Qaf hj, Qag (by omega), Qab hd']
      have g1 := hp m' [v.1, v.2] hm' (Nat.le_of_ble_eq_true rfl)
      simp only [cl, g1, cond_true]
      exact hk
theorem s_ca : C_ca (fun x => smB x.1) (fun x => (batSigned x.1 x.2.1 x.2.2.1, ())) := S_ca s_c9 fun x hx => ⟨List.length x.1.2.2.2.2.1 + 1, (ev_ca _ x.1 x.2.1 x.2.2.1).trans (by
  obtain ⟨b, role, but, u⟩ := x
  change MBat at b
  have hx : smB b = true := hx
  have h3 := (Qa2.1 hx).2.2.1
  simp only [cl, hx, cond_true]
  have := Qaw (σ := Unit) b.2.2.2.2.1 (fun k i _ => r_ca (fun x => (batMark x.1, ())) (fun x => smB x.1) (b, role, but, ()) k pt1 (h0_ca b role but (batMark b) (List.length b.2.2.2.2.1 : Int) (i : Int))) (fun r i _ => (signedBy (batMark b) role but r, ())) (fun _ _ => True) (fun k s _ => by
    rw [rd0_ca, Qad (Nat.le_refl _)]; rfl) (fun k i y r s hd hi _ => by
    rw [rd0_ca, Qae hi, Qaf hi, Qag (by omega), Qab hd]
    have e : signedBy (batMark b) role but (y :: r) = bif decide (y.2.1 = role) && (decide (y.2.2 = batMark b) && !decide (y.1 = but)) then y.1 else signedBy (batMark b) role but r := rfl
    rw [e]
    cases decide (y.2.1 = role)
    · exact .inr ⟨(), trivial, rfl, rfl⟩
    · cases decide (y.2.2 = batMark b)
      · exact .inr ⟨(), trivial, rfl, rfl⟩
      · cases decide (y.1 = but)
        · exact .inl rfl
        · exact .inr ⟨(), trivial, rfl, rfl⟩) b.2.2.2.2.1.length 0 () (by omega) trivial
  rw [List.drop_zero] at this
  exact this)⟩
theorem s_cb : C_cb (fun x => smB x.2.2.1) (fun x => (decide (x.1.2.1 = 2) && (decide (x.1.2.2 = x.2.1) && decide (0 < batSigned x.2.2.1 3 x.1.1)), ())) := S_cb s_ca fun x hx => ⟨0, (ev_cb 0 x.1 x.2.1 x.2.2.1).trans (by
  have hx : smB x.2.2.1 = true := hx
  simp only [cl, hx, cond_true]
  have key : ∀ a b c : Bool, (bif a then (bif b then some (c, ()) else some (false, ())) else some (false, ())) = some (a && (b && c), ()) := by intro a b c; cases a <;> cases b <;> rfl
  exact key _ _ _)⟩
theorem s_cc : C_cc (fun x => decide (List.length x.1 <= 4294967296) && smB x.2.1.2.1) (fun x => (idxOf (fun s : MSig => decide (s.2.1 = 2) && (decide (s.2.2 = x.2.1.1) && decide (0 < batSigned x.2.1.2.1 3 s.1))) x.1 0, ())) := S_cc s_cb fun x hx => ⟨List.length x.1 + 1, (ev_cc _ x.1 x.2.1).trans (by
  obtain ⟨hx, hb⟩ := Bool.and_eq_true_iff.1 hx
  have hx : List.length x.1 <= 4294967296 := of_decide_eq_true hx
  refine Qcn (α := MSig) x.1 (fun s : MSig => decide (s.2.1 = 2) && (decide (s.2.2 = x.2.1.1) && decide (0 < batSigned x.2.1.2.1 3 s.1))) (fun k i => r_cc (fun x => (decide (x.1.2.1 = 2) && (decide (x.1.2.2 = x.2.1) && decide (0 < batSigned x.2.2.1 3 x.1.1)), ())) (fun x => smB x.2.2.1) (x.1, x.2.1, ()) k pt0 (h0_cc x.1 x.2.1 (List.length x.1 : Int) (i : Int))) (fun k => ?_) (fun k i y r hd hi => ?_)
  · rw [rd0_cc, Qad (Nat.le_refl _)]; rfl
  · rw [rd0_cc, Qae hi, Qaf hi, Qag (by omega), Qab hd]
    simp only [cl, hb, cond_true])⟩
theorem s_cd : C_cd (fun x => decide (List.length x.1 <= 4294967296) && smB x.2.1.2.1) (fun x => (List.any x.1 (fun s : MSig => decide (s.2.1 = 2) && (decide (s.2.2 = x.2.1.1) && decide (0 < batSigned x.2.1.2.1 3 s.1))), ())) := S_cd s_cc fun x hx => ⟨0, (ev_cd 0 x.1 x.2.1).trans (by
  have hx : (decide (List.length x.1 <= 4294967296) && smB x.2.1.2.1) = true := hx
  simp only [cl, hx, cond_true, Qb8])⟩
theorem s_ce : C_ce (fun x => smB x.1) (fun x => (gate x.1, ())) := S_ce s_c5 s_c7 s_c9 s_cd fun x hx => ⟨0, (ev_ce 0 x.1).trans (by
  have hx : smB x.1 = true := hx
  obtain ⟨h1, h2, h3, h4⟩ := Qa2.1 (show smB _ = true from hx)
  have h1 : decide (List.length x.1.2.2.1 <= 4294967296) = true := decide_eq_true h1
  have h3 : decide (List.length x.1.2.2.2.2.1 <= 4294967296) = true := decide_eq_true h3
  have h4 : decide (List.length x.1.2.2.2.2.2 <= 4294967296) = true := decide_eq_true h4
  simp only [cl, hx, h1, h3, h4, cond_true, Bool.and_self]
  unfold gate shutAll hands
  have e1 : (!(List.any x.1.2.2.1 fun d : MTst => !passed d)) = List.all x.1.2.2.1 passed := Qcj _ _
  have e2 : (!(List.any x.1.2.2.2.2.2 fun d : Bool => true == d)) = List.all x.1.2.2.2.2.2 (!·) := by
    rw [<- Qcj (fun d : Bool => !d)]
    congr 2
    funext d; cases d <;> rfl
  rw [<- e1, <- e2]
  cases (List.any x.1.2.2.1 fun d : MTst => !passed d) <;> cases (List.any x.1.2.2.2.2.2 fun d : Bool => true == d) <;> rfl)⟩
theorem s_cf : C_cf (fun x => smB x.1) (fun x => (batOk x.1, ())) := S_cf s_iin s_bw s_c2 s_ce fun x hx => by
  obtain ⟨b, u⟩ := x
  change MBat at b
  have hx : smB b = true := hx
  obtain ⟨h1, h2, h3, h4⟩ := Qa2.1 (show smB _ = true from hx)
  have key : ∃ k, r_cf (fun x => (inq x.1 x.2.1 x.2.2.1, ())) (fun x => (tstOk x.1, ())) (fun x => decide (List.length x.1.2.2.2.2 <= 4294967296)) (fun x => (List.any x.1 (fun d : MSig => !sigOk d), ())) (fun x => decide (List.length x.1 <= 4294967296)) (fun x => (gate x.1, ())) (fun x => smB x.1) (b, ()) k pt1 (h0_cf b (List.length b.2.2.1 : Int) (0 : Int)) =
      some (riseL tstOk (fun t => t.1.1) none b.2.2.1 && (decide (b.2.2.2.2.1.length <= 6) && (b.2.2.2.2.1.all sigOk && (decide (b.2.2.2.2.2.length <= 3) && (!freed b.2.2.2.1 || gate b)))), ()) := by
    refine Qiw tstOk (fun t : MTst => t.1.1) b.2.2.1 _ (fun k i => r_cf (fun x => (inq x.1 x.2.1 x.2.2.1, ())) (fun x => (tstOk x.1, ())) (fun x => decide (List.length x.1.2.2.2.2 <= 4294967296)) (fun x => (List.any x.1 (fun d : MSig => !sigOk d), ())) (fun x => decide (List.length x.1 <= 4294967296)) (fun x => (gate x.1, ())) (fun x => smB x.1) (b, ()) k pt1 (h0_cf b (List.length b.2.2.1 : Int) (i : Int))) (fun _ => ⟨1, ?_⟩) (fun k i t r hd hi => ?_)
    · rw [rd0_cf, lt_eq, lt_eq, Qad (Nat.le_refl _)]
      have h3' : decide (List.length b.2.2.2.2.1 <= 4294967296) = true := decide_eq_true h3
      simp only [cl, hx, h3', cond_true, cond_false]
      have e1 : (!(List.any b.2.2.2.2.1 fun d : MSig => !sigOk d)) = List.all b.2.2.2.2.1 sigOk := Qcj _ _
      rw [<- e1]
      have d1 : decide (b.2.2.2.2.1.length <= 6) = !decide ((6 : Int) < (List.length b.2.2.2.2.1 : Int)) := by
        by_cases h : b.2.2.2.2.1.length <= 6
        · rw [decide_eq_true h, decide_eq_false (by omega)]; rfl
        · rw [decide_eq_false h, decide_eq_true (by omega)]; rfl
      have d2 : decide (b.2.2.2.2.2.length <= 3) = !decide ((3 : Int) < (List.length b.2.2.2.2.2 : Int)) := by
        by_cases h : b.2.2.2.2.2.length <= 3
        · rw [decide_eq_true h, decide_eq_false (by omega)]; rfl
        · rw [decide_eq_false h, decide_eq_true (by omega)]; rfl
      rw [d1, d2]
      unfold freed
      cases decide ((6 : Int) < (List.length b.2.2.2.2.1 : Int))
      · cases (List.any b.2.2.2.2.1 fun d : MSig => !sigOk d)
        · cases decide ((3 : Int) < (List.length b.2.2.2.2.2 : Int))
          · cases decide (b.2.2.2.1 = 2) <;> cases decide (b.2.2.2.1 = 4) <;> cases gate b <;> rfl
          · rfl
        · rfl
      · rfl
    · rw [rd0_cf, lt_eq, lt_eq, Qae hi, Qaf hi, Qag (by omega)]
      have hp : decide (List.length (rdL (e := S_TstTest) b.2.2.1 (i : Int)).2.2.2.2 <= 4294967296) = true := by
        rw [Qab hd]; exact decide_eq_true (h2 t (Qbt hd))
      simp only [cl, hp, cond_true]
      exact Qix tstOk (fun t : MTst => t.1.1) h1 hd hi _ (fun j => rdL (e := S_TstTest) b.2.2.1 j) (fun j hj => Qkt j hj)
  obtain ⟨k, hk⟩ := key
  refine ⟨k, (ev_cf k b).trans ?_⟩
  unfold batOk batOkA tstsOk
  simp only [hk]
  cases inq b.1 0 5
  · rfl
  · cases inq b.2.1 1 10000
    · rfl
    · cases inq (List.length b.2.2.1 : Int) 1 4
      · rfl
      · cases inq b.2.2.2.1 1 4
        · rfl
        · simp only [Bool.true_and, Bool.and_assoc]; rfl
end Go.Proofs.YtmbmoenjhfkgkaaGreat

set_option linter.unusedVariables false
set_option linter.unusedSimpArgs false
namespace Go.Proofs.YtmbmoenjhfkgkaaGreat
open Go.Vm
def one1 (w : ByteArray) : Bool := decide (w.data.toList.length = 1)
theorem Qer {α : Type} {p : Prop} [Decidable p] {a b c : α} (hb : p -> a = c) (hb2 : ¬ p -> b = c) : (bif decide p then a else b) = c := by
  by_cases h : p
  · rw [decide_eq_true h]; exact hb h
  · rw [decide_eq_false h]; exact hb2 h
end Go.Proofs.YtmbmoenjhfkgkaaGreat

set_option linter.unusedVariables false
set_option linter.unusedSimpArgs false
namespace Go.Proofs.YtmbmoenjhfkgkaaGreat
open Go.Vm
theorem s_av : C_av (fun _ => true) (fun x => (mixW x.1 x.2.1, ())) := S_av fun x _ => ⟨0, ev_av 0 x.1 x.2.1⟩
theorem s_aw : C_aw (fun x => smB x.1) (fun x => (batMark x.1, ())) := S_aw s_av fun x hx => by
  obtain ⟨b, u⟩ := x
  change MBat at b
  have hx : smB b = true := hx
  obtain ⟨h1, h2, h3, h4⟩ := Qa2.1 hx
  refine WithFuel.eq ?_
  show WithFuel (fun k => E_aw (fun x => (mixW x.1 x.2.1, ())) k (b, ())) _
  have ev := fun k => ev_aw (g_av := fun x => (mixW x.1 x.2.1, ())) k b
  simp only [ev, Qcg one_r]
  refine Qcw b.2.2.1 (fun _ m t => markTst m t) mkR (fun k i m => r_aw (fun x => (mixW x.1 x.2.1, ())) (b, ()) k pt1 (h0_aw b m (i : Int))) _ (fun i s x hs => Qir hs) (mix 1 b.1) (mix_r one_r) (fun hr => ?_) (fun i t r m hd hi hm hk => ?_)
  · rw [Qfb] at hr ⊢
    have hdev := Qcw (P := fun v => v = (batMark b, ())) b.2.2.2.2.2 (fun i m d => markDev m i d) mkR (fun k i m => r_aw (fun x => (mixW x.1 x.2.1, ())) (b, ()) k pt2 (h2_aw b m (i : Int))) (fun i s x hs => Qis hs) (markTsts (mix 1 b.1) b.2.2.1) hr (fun hr => ?_) (fun i d r m hd hi hm hk => ?_)
    · obtain ⟨k, hk⟩ := hdev
      refine ⟨k + 1, ?_⟩
      dsimp only
      rw [rd0_aw, Qad (Nat.le_refl _)]
      exact hk
    · rw [Qfc]
      refine Qiv 1 ?_
      dsimp only
      rw [rd2_aw, Qad (Nat.le_refl _)]; rfl
    · obtain ⟨k, v, hk, hv⟩ := hk
      refine ⟨k + 1, v, ?_, hv⟩
      dsimp only
      rw [rd2_aw, Qae hi, Qaf hi, Qag (by omega), Qab hd]
      simp only [Qcg hm, Qcg (mix_r hm), cond_true]
      cases d
      · exact hk
      · exact hk
  · have hmore := Qcw (P := fun v => v = (batMark b, ())) t.2.2.2.2 (fun _ m (v : MDec) => mix (mix m v.1) v.2) mkR (fun k j m => r_aw (fun x => (mixW x.1 x.2.1, ())) (b, ()) k pt4 (h1_aw b m (i : Int) (j : Int) t)) (fun i s x hs => mix_r (mix_r hs)) (markHead m t) (Qe8 hm) (fun hr => ?_) (fun j v r' m' hd' hj hm' hk' => ?_)
    · obtain ⟨k, v, hk, hv⟩ := hmore
      refine ⟨k + 1, v, ?_, hv⟩
      dsimp only
      rw [rd0_aw, Qae hi, Qaf hi, Qab hd]
      simp only [Qcg hm, Qcg (mix_r hm), Qcg (mix_r (mix_r hm)), Qcg (mix_r (mix_r (mix_r hm))), cond_true]
      exact hk
    · rw [Qeo]
      obtain ⟨k, v, hk, hv⟩ := hk
      refine ⟨k + 1, v, ?_, hv⟩
      dsimp only
      rw [rd1_aw, Qad (Nat.le_refl _), Qag (i := i) (by omega)]
      exact hk
    · obtain ⟨k, v', hk, hv⟩ := hk'
      refine ⟨k + 1, v', ?_, hv⟩
      have hlt : List.length t.2.2.2.2 <= 4294967296 := h2 t (Qbt hd)
      dsimp only
      rw [rd1_aw, Qae hj, Qaf hj, Qag (i := j) (by omega), Qab hd']
      simp only [Qcg hm', Qcg (mix_r hm'), cond_true]
      exact hk
theorem s_ax : C_ax (fun x => smB x.1) (fun x => (batSigned x.1 x.2.1 x.2.2.1, ())) := S_ax s_aw fun x hx => ⟨List.length x.1.2.2.2.2.1 + 1, (ev_ax _ x.1 x.2.1 x.2.2.1).trans (by
  obtain ⟨b, role, but, u⟩ := x
  change MBat at b
  have hx : smB b = true := hx
  have h3 := (Qa2.1 hx).2.2.1
  have := Qaw (σ := Unit) b.2.2.2.2.1 (fun k i _ => r_ax (fun x => (batMark x.1, ())) (fun x => smB x.1) (b, role, but, ()) k pt0 (h0_ax b role but (i : Int))) (fun r i _ => (signedBy (batMark b) role but r, ())) (fun _ _ => True) (fun k s _ => by
    rw [rd0_ax, Qad (Nat.le_refl _)]; rfl) (fun k i y r s hd hi _ => by
    have h0i : decide ((0 : Int) <= (i : Int)) = true := decide_eq_true (by omega)
    rw [rd0_ax, Qag (by omega), Qab hd]
    simp only [cl, hx, h0i, Qaf hi, cond_true]
    have e : signedBy (batMark b) role but (y :: r) = bif decide (y.2.1 = role) && (decide (y.2.2 = batMark b) && !decide (y.1 = but)) then y.1 else signedBy (batMark b) role but r := rfl
    rw [e]
    cases decide (y.2.1 = role)
    · exact .inr ⟨(), trivial, rfl, rfl⟩
    · cases decide (y.1 = but)
      · cases decide (y.2.2 = batMark b)
        · exact .inr ⟨(), trivial, rfl, rfl⟩
        · exact .inl rfl
      · cases decide (y.2.2 = batMark b)
        · exact .inr ⟨(), trivial, rfl, rfl⟩
        · exact .inr ⟨(), trivial, rfl, rfl⟩) b.2.2.2.2.1.length 0 () (by omega) trivial
  rw [List.drop_zero] at this
  exact this)⟩
theorem s_ay : C_ay (fun x => smB x.1 && sigsOk x.1) (fun x => (hands x.1, ())) := S_ay s_aw s_ax fun x hx => by
  obtain ⟨b, u⟩ := x
  change MBat at b
  obtain ⟨hx, hs⟩ := Bool.and_eq_true_iff.1 hx
  have hx : smB b = true := hx
  have hs : sigsOk b = true := hs
  have h3 := (Qa2.1 hx).2.2.1
  have go : ∀ (m : Nat) (u : Int), 1 <= u -> u + m = 6 -> ∃ k, r_ay (fun x => (batMark x.1, ())) (fun x => smB x.1) (fun x => (batSigned x.1 x.2.1 x.2.2.1, ())) (fun x => smB x.1) (b, ()) k pt0 (h0_ay b u) = some (b.2.2.2.2.1.any (fun s => decide (u <= s.1) && (decide (s.1 <= 5) && hand1 b s)), ()) := by
    intro m
    induction m with
    | zero =>
      intro u h1 h
      have : u = 6 := by omega
      subst this
      refine ⟨1, ?_⟩
      rw [rd0_ay, Qlu]; rfl
    | succ m ih =>
      intro u h1 h
      have hw : w64 (u + 1) = u + 1 := Qac (by omega) (by omega)
      obtain ⟨k, hk⟩ := ih (u + 1) (by omega) (by omega)
      obtain ⟨k, hk⟩ := Qm2 (α := MSig) b.2.2.2.2.1 (fun s => decide (s.1 = u) && hand1 b s) _ (fun k i => r_ay (fun x => (batMark x.1, ())) (fun x => smB x.1) (fun x => (batSigned x.1 x.2.1 x.2.2.1, ())) (fun x => smB x.1) (b, ()) k pt3 (h1_ay b u (i : Int))) ⟨k + 1, by rw [rd1_ay, Qad (Nat.le_refl _), hw]; exact hk⟩ (fun k i s r hd hi => by
        rw [rd1_ay, Qae hi, Qaf hi, Qag (by omega), Qab hd]
        simp only [cl, hx, cond_true]
        unfold hand1
        by_cases e : s.1 = u
        · subst e
          rw [decide_eq_true rfl]
          cases decide (s.2.1 = 2)
          · rfl
          · cases decide (s.2.2 = batMark b)
            · rfl
            · cases decide (0 < batSigned b 3 s.1) <;> rfl
        · rw [decide_eq_false e]; rfl)
      refine ⟨k + 1, ?_⟩
      rw [rd0_ay, decide_eq_true (show u <= 5 by omega), <- Qlt b (show u <= 5 by omega)]
      exact hk
  obtain ⟨k, hk⟩ := go 5 1 (Int.le_refl _) rfl
  exact ⟨k, (ev_ay k b).trans (by rw [hk, <- Qls hs])⟩
theorem s_az : C_az (fun x => smB x.1 && sigsOk x.1) (fun x => (gate x.1, ())) := S_az s_ay fun x hx => by
  obtain ⟨b, u⟩ := x
  change MBat at b
  have hx : (smB b && sigsOk b) = true := hx
  obtain ⟨h1, h2, h3, h4⟩ := Qa2.1 (Bool.and_eq_true_iff.1 hx).1
  obtain ⟨k, hk⟩ := Qfx (α := Bool) b.2.2.2.2.2 (!·) (hands b) (fun k i => r_az (fun x => (hands x.1, ())) (fun x => smB x.1 && sigsOk x.1) (b, ()) k pt1 (h1_az b (i : Int))) (fun _ => ⟨1, by
    rw [rd1_az, Qad (Nat.le_refl _), cl_eq hx]; rfl⟩) (fun k i d r hd hi => by
    rw [rd1_az, Qae hi, Qaf hi, Qag (by omega), Qab hd]
    cases d <;> rfl)
  obtain ⟨k, hk⟩ := Qfx (α := MTst) b.2.2.1 passed _ (fun k i => r_az (fun x => (hands x.1, ())) (fun x => smB x.1 && sigsOk x.1) (b, ()) k pt0 (h0_az b (i : Int))) (fun _ => ⟨k + 1, by
    rw [rd0_az, Qad (Nat.le_refl _)]; exact hk⟩) (fun k i t r hd hi => by
    rw [rd0_az, Qae hi, Qaf hi, Qag (by omega), Qab hd]
    unfold passed
    cases decide (t.2.1 = 3) <;> rfl)
  refine ⟨k, (ev_az k b).trans (hk.trans ?_)⟩
  unfold gate shutAll
  rw [Bool.and_assoc]
theorem s_b0 : C_b0 (fun x => smB x.1) (fun x => (batOk x.1, ())) := S_b0 s_ah s_au s_az fun x hx => by
  obtain ⟨b, u⟩ := x
  change MBat at b
  have hx : smB b = true := hx
  obtain ⟨h1, h2, h3, h4⟩ := Qa2.1 hx
  have key : ∃ k, r_b0 (fun x => (inq x.1 x.2.1 x.2.2.1, ())) (fun x => (tstOk x.1, ())) (fun x => (gate x.1, ())) (fun x => smB x.1 && sigsOk x.1) (b, ()) k pt1 (h0_b0 b (0 : Int)) =
      some (riseL tstOk (fun t => t.1.1) none b.2.2.1 && (b.2.2.2.2.1.all sigOk && (!freed b.2.2.2.1 || gate b)), ()) := by
    refine Qiw tstOk (fun t : MTst => t.1.1) b.2.2.1 _ (fun k i => r_b0 (fun x => (inq x.1 x.2.1 x.2.2.1, ())) (fun x => (tstOk x.1, ())) (fun x => (gate x.1, ())) (fun x => smB x.1 && sigsOk x.1) (b, ()) k pt1 (h0_b0 b (i : Int))) (fun _ => ?_) (fun k i t r hd hi => ?_)
    · obtain ⟨k, hk⟩ := Qfx (α := MSig) b.2.2.2.2.1 sigOk (!freed b.2.2.2.1 || gate b) (fun k i => r_b0 (fun x => (inq x.1 x.2.1 x.2.2.1, ())) (fun x => (tstOk x.1, ())) (fun x => (gate x.1, ())) (fun x => smB x.1 && sigsOk x.1) (b, ()) k pt2 (h1_b0 b (i : Int))) (fun hs => ⟨1, by
        have hp : (smB b && sigsOk b) = true := by rw [hx]; exact hs
        rw [rd1_b0, Qad (Nat.le_refl _)]
        simp only [cl, hp, cond_true, cond_false]
        unfold freed
        cases decide (b.2.2.2.1 = 2) <;> cases decide (b.2.2.2.1 = 4) <;> rfl⟩) (fun k i s r hd hi => by
        rw [rd1_b0, Qae hi, Qaf hi, Qag (by omega), Qab hd]
        unfold sigOk signs
        simp only [cond_true]
        cases inq s.1 1 5
        · rfl
        · cases decide (s.2.1 = 2)
          · cases decide (s.2.1 = 3)
            · rfl
            · cases inq s.2.2 0 999982 <;> rfl
          · cases inq s.2.2 0 999982 <;> rfl)
      exact ⟨k + 1, by rw [rd0_b0, Qad (Nat.le_refl _)]; exact hk⟩
    · rw [rd0_b0, Qae hi, Qaf hi, Qag (by omega)]
      exact Qix tstOk (fun t : MTst => t.1.1) h1 hd hi _ (fun j => rdL (e := S_TstTest) b.2.2.1 j) (fun j hj => Qkt j hj)
  obtain ⟨k, hk⟩ := key
  refine ⟨k, (ev_b0 k b).trans ?_⟩
  have d1 : decide (b.2.2.2.2.1.length <= 6) = !decide ((6 : Int) < (List.length b.2.2.2.2.1 : Int)) := by
    by_cases h : b.2.2.2.2.1.length <= 6
    · rw [decide_eq_true h, decide_eq_false (by omega)]; rfl
    · rw [decide_eq_false h, decide_eq_true (by omega)]; rfl
  have d2 : decide (b.2.2.2.2.2.length <= 3) = !decide ((3 : Int) < (List.length b.2.2.2.2.2 : Int)) := by
    by_cases h : b.2.2.2.2.2.length <= 3
    · rw [decide_eq_true h, decide_eq_false (by omega)]; rfl
    · rw [decide_eq_false h, decide_eq_true (by omega)]; rfl
  show _ = some (batOk b, ())
  unfold batOk batOkA tstsOk
  rw [d1, d2]
  simp only [hk]
  cases inq b.1 0 5
  · rfl
  · cases inq b.2.1 1 10000
    · rfl
    · cases inq (List.length b.2.2.1 : Int) 1 4
      · rfl
      · cases inq b.2.2.2.1 1 4
        · rfl
        · cases decide ((6 : Int) < (List.length b.2.2.2.2.1 : Int))
          · cases decide ((3 : Int) < (List.length b.2.2.2.2.2 : Int))
            · simp only [Bool.true_and, Bool.and_true, Bool.and_assoc, Bool.not_false]; rfl
            · simp only [Bool.true_and, Bool.and_true, Bool.and_false, Bool.false_and, Bool.not_true]; rfl
          · simp only [Bool.true_and, Bool.and_true, Bool.and_false, Bool.false_and, Bool.not_true]; rfl
theorem s_ag : C_ag (fun x => smB x.1) (fun x => (x.1, ())) := S_ag s_af fun x hx => ⟨List.length x.1.2.2.1 + 1, (ev_ag _ x.1).trans (by
  obtain ⟨b, u⟩ := x
  change MBat at b
  have hx : smB b = true := hx
  obtain ⟨h1, h2, h3, h4⟩ := Qa2.1 hx
  rw [Qb3 (by show 0 + List.length b.2.2.2.2.1 <= _; omega), Qb3 (by show 0 + List.length b.2.2.2.2.2 <= _; omega)]
  have := Qaw (σ := List MTst) b.2.2.1 (fun f i out => r_ag (fun x => (x.1, ())) (fun x => smT x.1) (b, ()) f pt1 (h0_ag b (i : Int) (0 : Int) (0 : Int) (0 : Int) [] [] [] out (List.append [] b.2.2.2.2.1) (List.append [] b.2.2.2.2.2))) (fun r i out => ((b.1, b.2.1, out ++ r, b.2.2.2.1, b.2.2.2.2.1, b.2.2.2.2.2), ())) (fun i out => out.length = i) (fun f s hs => by
    rw [rd0_ag, Qad (Nat.le_refl _), List.append_nil]; rfl) (fun f i y r s hd hi hs => by
    have hp : smT y = true := decide_eq_true (h2 y (Qbt hd))
    refine .inr ⟨s ++ [y], by rw [List.length_append]; show s.length + 1 = i + 1; omega, ?_, by simp⟩
    rw [rd0_ag, Qae hi, Qaf hi, Qag (by omega), Qab hd]
    simp only [cl, hp, cond_true]
    rw [Qb3 (by show s.length + 1 <= _; omega)]; rfl) b.2.2.1.length 0 [] (by omega) rfl
  rw [List.drop_zero, List.nil_append] at this
  exact this)⟩
theorem s_b8 : C_b8 (fun x => decide (List.length x.1 <= 4294967296)) (fun x => (x.1, ())) := S_b8 fun x hx => ⟨0, (ev_b8 0 x.1).trans (p_clone (α := MSig) x.1 (of_decide_eq_true hx))⟩
theorem s_b9 : C_b9 (fun x => decide (List.length x.1 <= 4294967296)) (fun x => (x.1, ())) := S_b9 fun x hx => ⟨0, (ev_b9 0 x.1).trans (p_clone (α := Bool) x.1 (of_decide_eq_true hx))⟩
theorem s_ba : C_ba (fun x => smB x.1) (fun x => (x.1, ())) := S_ba s_b7 s_b8 s_b9 fun x hx => ⟨List.length x.1.2.2.1 + 1, (ev_ba _ x.1).trans (by
  obtain ⟨b, u⟩ := x
  change MBat at b
  have hx : smB b = true := hx
  obtain ⟨h1, h2, h3, h4⟩ := Qa2.1 hx
  have h3' : decide (List.length b.2.2.2.2.1 <= 4294967296) = true := decide_eq_true h3
  have h4' : decide (List.length b.2.2.2.2.2 <= 4294967296) = true := decide_eq_true h4
  have := Qaw (σ := List MTst) b.2.2.1 (fun f i out => r_ba (fun x => (x.1, ())) (fun x => smT x.1) (fun x => (x.1, ())) (fun x => decide (List.length x.1 <= 4294967296)) (fun x => (x.1, ())) (fun x => decide (List.length x.1 <= 4294967296)) (b, ()) f pt1 (h0_ba b (List.length b.2.2.1 : Int) (i : Int) (0 : Int) (0 : Int) (0 : Int) [] [] [] out)) (fun r i out => ((b.1, b.2.1, out ++ r, b.2.2.2.1, b.2.2.2.2.1, b.2.2.2.2.2), ())) (fun i out => out.length = i) (fun f s hs => by
    rw [rd0_ba, Qad (Nat.le_refl _), List.append_nil]
    simp only [cl, h3', h4', cond_true, cond_false]) (fun f i y r s hd hi hs => by
    have hp : smT y = true := decide_eq_true (h2 y (Qbt hd))
    refine .inr ⟨s ++ [y], by rw [List.length_append]; show s.length + 1 = i + 1; omega, ?_, by simp⟩
    rw [rd0_ba, Qae hi, Qaf hi, Qag (by omega), Qab hd]
    simp only [cl, hp, cond_true]
    rw [Qb3 (by show s.length + 1 <= _; omega)]; rfl) b.2.2.1.length 0 [] (by omega) rfl
  rw [List.drop_zero, List.nil_append] at this
  exact this)⟩
theorem p_open {β : Type} (ok st : Bool) (A B : β) : (bif (bif ok then false else true) then B else (bif (bif st then false else true) then B else A)) = bif ok && st then A else B := by cases ok <;> cases st <;> rfl
def withTst (b : MBat) (i : Int) (t : MTst) : MBat := (b.1, b.2.1, b.2.2.1.set i.toNat t, b.2.2.2.1, b.2.2.2.2.1, b.2.2.2.2.2)
noncomputable def turnAt (b : MBat) (n w : Int) (v : MDec) (c : Int) : MBat × Bool := bif decide (findT b.2.2.1 n < 0) then (b, false) else (withTst b (findT b.2.2.1 n) (tstTurn (b.2.2.1.getD (findT b.2.2.1 n).toNat t0) w v c).1, (tstTurn (b.2.2.1.getD (findT b.2.2.1 n).toNat t0) w v c).2)
theorem Qhp (b : MBat) (n w : Int) (v : MDec) (c : Int) : batTest b n w v c = bif isOpen b then turnAt b n w v c else (b, false) := by
  unfold batTest turnAt
  cases isOpen b
  · rfl
  · cases decide (findT b.2.2.1 n < 0) <;> rfl
theorem s_cg : C_cg (fun _ => true) (fun x => (decide (x.1.1.1 = x.2.1), ())) := S_cg fun x _ => ⟨0, ev_cg 0 x.1 x.2.1⟩
theorem s_ch : C_ch (fun x => decide (List.length x.1 <= 4294967296)) (fun x => (findT x.1 x.2.1.1, ())) := S_ch s_cg fun x hx => ⟨List.length x.1 + 1, (ev_ch _ x.1 x.2.1).trans (by
  have hx : List.length x.1 <= 4294967296 := of_decide_eq_true hx
  refine Qcn (α := MTst) x.1 (fun t => decide (t.1.1 = x.2.1.1)) (fun k i => r_ch (fun x => (decide (x.1.1.1 = x.2.1), ())) (fun _ => true) (x.1, x.2.1, ()) k pt0 (h0_ch x.1 x.2.1 (List.length x.1 : Int) (i : Int))) (fun k => ?_) (fun k i y r hd hi => ?_)
  · rw [rd0_ch, Qad (Nat.le_refl _)]; rfl
  · rw [rd0_ch, Qae hi, Qaf hi, Qag (by omega), Qab hd]; rfl)⟩
theorem Qm9 (b : MBat) {i : Int} (h : i.toNat < b.2.2.1.length) : withTst b i (b.2.2.1.getD i.toNat t0) = b := by
  unfold withTst
  have : b.2.2.1.set i.toNat (b.2.2.1.getD i.toNat t0) = b.2.2.1 := by
    refine Qj1 ?_
    rw [List.getD_eq_getElem?_getD, List.getElem?_eq_getElem h]; rfl
  rw [this]
theorem Qnu {b : MBat} {i : Int} (h1 : 0 <= i) (h2 : i < b.2.2.1.length) : b.2.2.1.getD i.toNat t0 ∈ b.2.2.1 := by
  have h : i.toNat < b.2.2.1.length := by omega
  rw [List.getD_eq_getElem?_getD, List.getElem?_eq_getElem h]
  exact List.getElem_mem h
theorem s_cr : C_cr (fun x => smB x.1) (fun x => ((turnAt x.1 x.2.1 x.2.2.1 x.2.2.2.1 x.2.2.2.2.1).2, (turnAt x.1 x.2.1 x.2.2.1 x.2.2.2.1 x.2.2.2.2.1).1, ())) := S_cr s_ch s_ck s_cn s_cq fun x hx => ⟨0, (ev_cr 0 x.1 x.2.1 x.2.2.1 x.2.2.2.1 x.2.2.2.2.1).trans (by
  obtain ⟨b, n, w, v, c, z⟩ := x
  change MBat at b
  have hx : smB b = true := hx
  obtain ⟨h1, h2, h3, h4⟩ := Qa2.1 hx
  have h1' : decide (List.length b.2.2.1 <= 4294967296) = true := decide_eq_true h1
  simp only [cl, lt_eq, h1', cond_true]
  show _ = some ((turnAt b n w v c).2, (turnAt b n w v c).1, ())
  unfold turnAt
  rcases Qgh b.2.2.1 n with hf | ⟨hf1, hf2⟩
  · rw [hf]; rfl
  · have e : rdL (e := S_TstTest) b.2.2.1 (findT b.2.2.1 n) = b.2.2.1.getD (findT b.2.2.1 n).toNat t0 := rfl
    have hs : smT (b.2.2.1.getD (findT b.2.2.1 n).toNat t0) = true := decide_eq_true (h2 _ (Qnu hf1 hf2))
    have hself := Qm9 b (i := findT b.2.2.1 n) (by omega)
    rw [e, decide_eq_false (show ¬ findT b.2.2.1 n < 0 by omega), decide_eq_true hf1, decide_eq_true hf2]
    simp only [hs, cond_true, cond_false]
    unfold tstTurn
    refine Qer (fun h => by rw [if_pos h]; rfl) fun h => ?_
    rw [if_neg h]
    refine Qer (fun h => by rw [if_pos h]; rfl) fun h => ?_
    rw [if_neg h]
    refine Qer (fun h => by rw [if_pos h]; rfl) fun h => ?_
    rw [if_neg h, hself])⟩
theorem s_cs : C_cs (fun x => smB x.1) (fun x => ((batTest x.1 x.2.1.1 x.2.1.2.1 x.2.1.2.2.1 x.2.1.2.2.2.1).1, (batTest x.1 x.2.1.1 x.2.1.2.1 x.2.1.2.2.1 x.2.1.2.2.2.1).2, ())) := S_cs s_ba s_cf s_cr fun x hx => ⟨0, (ev_cs 0 x.1 x.2.1).trans (by
  obtain ⟨b, ⟨n, w, v, c, z⟩, z2⟩ := x
  change MBat at b
  have h1 : smB b = true := hx
  simp only [cl, h1, cond_true]
  rw [p_open]
  rw [Qhp]
  show (bif isOpen b then _ else _) = _
  cases ho : isOpen b <;> rfl)⟩
theorem s_ct : C_ct (fun x => smB x.1) (fun x => ((batTest x.1 x.2.1 x.2.2.1 x.2.2.2.1 x.2.2.2.2.1).1, (batTest x.1 x.2.1 x.2.2.1 x.2.2.2.1 x.2.2.2.2.1).2, ())) := S_ct s_cs fun x hx => ⟨0, (ev_ct 0 x.1 x.2.1 x.2.2.1 x.2.2.2.1 x.2.2.2.2.1).trans (cl_eq hx)⟩
theorem s_b4 : C_b4 (fun x => smT x.1) (fun x => ((tstTurn x.1 x.2.1 x.2.2.1 x.2.2.2.1).1, (tstTurn x.1 x.2.1 x.2.2.1 x.2.2.2.1).2, ())) := S_b4 s_b1 s_b2 s_b3 s_af fun x hx => ⟨0, (ev_b4 0 x.1 x.2.1 x.2.2.1 x.2.2.2.1).trans (by
  obtain ⟨t, w, v, c, z⟩ := x
  change MTst at t
  have hx : smT t = true := hx
  simp only [cl, hx, cond_true]
  show _ = some ((tstTurn t w v c).1, (tstTurn t w v c).2, ())
  unfold tstTurn
  refine Qer (fun h => by rw [if_pos h]) fun h => ?_
  rw [if_neg h]
  refine Qer (fun h => by rw [if_pos h]) fun h => ?_
  rw [if_neg h]
  refine Qer (fun h => by rw [if_pos h]) fun h => ?_
  rw [if_neg h])⟩
theorem s_b5 : C_b5 (fun x => smB x.1) (fun x => ((batTest x.1 x.2.1 x.2.2.1 x.2.2.2.1 x.2.2.2.2.1).1, (batTest x.1 x.2.1 x.2.2.1 x.2.2.2.1 x.2.2.2.2.1).2, ())) := S_b5 s_ag s_b0 s_b4 fun x hx => ⟨List.length x.1.2.2.1 + 1, (ev_b5 _ x.1 x.2.1 x.2.2.1 x.2.2.2.1 x.2.2.2.2.1).trans (by
  obtain ⟨b, n, w, v, c, z⟩ := x
  change MBat at b
  have hx : smB b = true := hx
  obtain ⟨h1, h2, h3, h4⟩ := Qa2.1 hx
  simp only [cl, hx, cond_true]
  rw [p_open]
  rw [Qhp]
  show (bif isOpen b then _ else _) = _
  cases ho : isOpen b
  · rfl
  · have := Qaw (σ := Unit) b.2.2.1 (fun f i _ => r_b5 (fun x => (x.1, ())) (fun x => smB x.1) (fun x => (batOk x.1, ())) (fun x => smB x.1) (fun x => ((tstTurn x.1 x.2.1 x.2.2.1 x.2.2.2.1).1, (tstTurn x.1 x.2.1 x.2.2.1 x.2.2.2.1).2, ())) (fun x => smT x.1) (b, n, w, v, c, ()) f pt2 (h0_b5 b n w v c (i : Int) (0 : Int) (0 : Int) (0 : Int) [] [] [] b.1 b.2.1 b.2.2.2.1 b.2.2.1 b.2.2.2.2.1 b.2.2.2.2.2)) (fun r i _ => (fun j : Int => bif decide (j < 0) then ((b, false, ()) : MBat × Bool × Unit) else (withTst b j (tstTurn (b.2.2.1.getD j.toNat t0) w v c).1, (tstTurn (b.2.2.1.getD j.toNat t0) w v c).2, ())) (idxOf (fun t : MTst => decide (t.1.1 = n)) r i)) (fun _ _ => True) (fun f s _ => by
      rw [rd0_b5, Qad (Nat.le_refl _)]; rfl) (fun f i t r s hd hi _ => by
      have hp : smT t = true := decide_eq_true (h2 t (Qbt hd))
      have h0i : decide ((0 : Int) <= (i : Int)) = true := decide_eq_true (by omega)
      rw [rd0_b5, Qag (by omega), Qab hd]
      simp only [cl, hp, h0i, Qaf hi, cond_true]
      have eg : b.2.2.1.getD ((i : Int)).toNat t0 = t := by
        have e : rdL (e := S_TstTest) b.2.2.1 (i : Int) = b.2.2.1.getD ((i : Int)).toNat t0 := rfl
        rw [<- e, Qab hd]
      have ei : idxOf (fun t : MTst => decide (t.1.1 = n)) (t :: r) i = bif decide (t.1.1 = n) then (i : Int) else idxOf (fun t : MTst => decide (t.1.1 = n)) r (i + 1) := rfl
      rw [ei]
      cases decide (t.1.1 = n)
      · exact .inr ⟨(), trivial, rfl, rfl⟩
      · refine .inl ?_
        simp only [cond_true]
        rw [decide_eq_false (show ¬ (i : Int) < 0 by omega), eg]; rfl) b.2.2.1.length 0 () (by omega) trivial
    rw [List.drop_zero] at this
    refine this.trans ?_
    unfold turnAt findT
    simp only [cond_true]
    cases decide (idxOf (fun t : MTst => decide (t.1.1 = n)) b.2.2.1 0 < 0) <;> rfl)⟩

end Go.Proofs.YtmbmoenjhfkgkaaGreat

set_option linter.unusedVariables false
set_option linter.unusedSimpArgs false
namespace Go.Proofs.YtmbmoenjhfkgkaaGreat
open Go.Vm
theorem Qgy {S : Sh} {l : List S.den} {i : Nat} {x : S.den} (h : i < l.length) : rdL (e := S) (l.set i x) (i : Int) = x := by
  unfold rdL
  rw [Int.toNat_natCast, List.getD_eq_getElem?_getD, List.getElem?_set_self h]; rfl
theorem Qiz (a b : Bool) : same a b = (a == b) := by
  rw [Bool.eq_iff_iff, Qa4]; exact beq_iff_eq.symm
def wfTsts (l : List MTst) : Bool := okLen l.length && l.all (fun t => okLen t.2.2.2.2.length)
def wfBat (b : MBat) : Bool := wfTsts b.2.2.1 && (okLen b.2.2.2.2.1.length && okLen b.2.2.2.2.2.length)
def smTs (l : List MTst) : Bool := decide (l.length <= 4294967296) && l.all (fun t => decide (t.2.2.2.2.length <= 4294967296))
theorem Qgz {l : List MTst} : smTs l = true ↔ l.length <= 4294967296 /\ ∀ t ∈ l, t.2.2.2.2.length <= 4294967296 := by
  unfold smTs; simp only [Bool.and_eq_true, decide_eq_true_eq, List.all_eq_true]
theorem Qi0 {b : MBat} (h : smB b = true) : smTs b.2.2.1 = true /\ decide (List.length b.2.2.2.2.1 <= 4294967296) = true /\ decide (List.length b.2.2.2.2.2 <= 4294967296) = true := by
  obtain ⟨h1, h2, h3, h4⟩ := Qa2.1 h
  exact ⟨Qgz.2 ⟨h1, h2⟩, decide_eq_true h3, decide_eq_true h4⟩
theorem s_a3 : C_a3 (fun x => okLen (List.length x.1) && inq x.2.1 0 1048576) (fun x => (siN (List.length x.1) x.2.1, ())) := S_a3 fun x hx => ⟨0, (ev_a3 0 x.1 x.2.1).trans (by
  have h := Bool.and_eq_true_iff.1 hx
  have h2 := Qap.1 h.2
  exact p_szLen _ _ (Qbv.1 h.1) h2.1 h2.2)⟩
theorem s_a4 : C_a4 (fun x => okLen (List.length x.1) && inq x.2.1 0 1048576) (fun x => (siN (List.length x.1) x.2.1, ())) := S_a4 fun x hx => ⟨0, (ev_a4 0 x.1 x.2.1).trans (by
  have h := Bool.and_eq_true_iff.1 hx
  have h2 := Qap.1 h.2
  exact p_szLen _ _ (Qbv.1 h.1) h2.1 h2.2)⟩
theorem s_a2 : C_a2 (fun x => wfTsts x.1 && inq x.2.1 0 1048576) (fun x => (szList siTst x.1 x.2.1, ())) := S_a2 s_a1 fun x hx => ⟨List.length x.1 + 1, (ev_a2 _ x.1 x.2.1).trans (by
  obtain ⟨h1, h2⟩ := Bool.and_eq_true_iff.1 hx
  obtain ⟨h3, h4⟩ := Bool.and_eq_true_iff.1 h1
  obtain ⟨h5, h6⟩ := Qap.1 h2
  have h4 : ∀ s ∈ (x.1 : List MTst), okLen (List.length s.2.2.2.2) = true := fun s hs => List.all_eq_true.1 h4 s hs
  refine p_sz0 (Qbv.1 h3) h5 h6 fun hle => ?_
  have key : ∀ (xs : List MTst) (l l0 : Int), xs.length <= 1048576 -> 0 <= l -> l <= 1048576 -> (∀ s ∈ xs, okLen (List.length s.2.2.2.2) = true) -> r_a2 (fun x => (szN (List.length x.1.2.2.2.2) x.2.1, ())) (fun x => okLen (List.length x.1.2.2.2.2) && inq x.2.1 0 1048576) (xs, l0, ()) (xs.length + 1) pt2 (h0_a2 xs l0 l ((0 : Nat) : Int)) = some (szGo siTst xs l, ()) := fun xs l l0 hx h0 h1 hm => by
    refine Qn5 xs siTst Qdh (fun k i l => r_a2 (fun x => (szN (List.length x.1.2.2.2.2) x.2.1, ())) (fun x => okLen (List.length x.1.2.2.2.2) && inq x.2.1 0 1048576) (xs, l0, ()) k pt2 (h0_a2 xs l0 l (i : Int))) (fun k l => ?_) (fun k i y r l hd hi g0 g1 => ?_) l h0 h1
    · rw [rd0_a2, Qad (Nat.le_refl _)]; rfl
    · rw [rd0_a2, Qae hi, Qaf hi, Qag (by omega), Qab hd]
      have : (okLen (List.length y.2.2.2.2) && inq l 0 1048576) = true := Bool.and_eq_true_iff.2 ⟨hm y (Qbt hd), Qap.2 ⟨g0, g1⟩⟩
      rw [cl_eq this]
      rfl
  have e : w64 ((x.2.1 : Int) - ((List.length x.1 : Nat) : Int)) = x.2.1 - ((List.length x.1 : Nat) : Int) := Qac (Int.le_trans (by decide) (Int.sub_nonneg.2 hle)) (Int.le_trans (Int.sub_le_self _ (Int.natCast_nonneg _)) (Int.le_trans h6 (by decide)))
  rw [e]
  exact key x.1 _ x.2.1 (Int.ofNat_le.1 (show ((List.length x.1 : Nat) : Int) <= ((1048576 : Nat) : Int) from Int.le_trans hle h6)) (Int.sub_nonneg.2 hle) (Int.le_trans (Int.sub_le_self _ (Int.natCast_nonneg _)) h6) h4)⟩
theorem s_a5 : C_a5 (fun x => wfBat x.1 && inq x.2.1 0 1048576) (fun x => (siBat x.1 x.2.1, ())) := S_a5 s_a2 s_a3 s_a4 fun x hx => ⟨0, (ev_a5 0 x.1 x.2.1).trans (by
  obtain ⟨b, l, u⟩ := x
  change MBat at b
  change Int at l
  obtain ⟨h1, h2⟩ := Bool.and_eq_true_iff.1 hx
  have h1 : wfBat b = true := h1
  have h2 : inq l 0 1048576 = true := h2
  obtain ⟨w1, w23⟩ := Bool.and_eq_true_iff.1 h1
  obtain ⟨w2, w3⟩ := Bool.and_eq_true_iff.1 w23
  have h3 := Qap.1 h2
  dsimp only
  rw [cl_eq (Bool.and_eq_true_iff.2 ⟨w1, h2⟩)]
  refine p_sq fun g1 => ?_
  have k1 := Qip (f := siTst) (xs := b.2.2.1) Qdh h3.1
  rw [cl_eq (Bool.and_eq_true_iff.2 ⟨w2, Qap.2 ⟨g1, by dsimp only at g1 ⊢; omega⟩⟩)]
  refine p_sq fun g2 => ?_
  have k2 := Qm5 (n := b.2.2.2.2.1.length) g1
  rw [cl_eq (Bool.and_eq_true_iff.2 ⟨w3, Qap.2 ⟨g2, by dsimp only at g1 g2 k2 ⊢; omega⟩⟩)]
  exact p_sq fun g3 => rfl)⟩
theorem s_ab : C_ab (fun _ => true) (fun x => (x.1, ())) := S_ab fun x _ => ⟨0, ev_ab 0 x.1⟩
theorem s_ad : C_ad (fun x => decide (List.length x.1 <= 4294967296)) (fun x => (x.1, ())) := S_ad fun x hx => ⟨List.length x.1 + 1, (ev_ad _ x.1).trans (by
  have hx : List.length x.1 <= 4294967296 := of_decide_eq_true hx
  rw [p_make hx]
  refine (Qe6 (α := Bool) x.1 (fun y => y) (fun k i out => r_ad  (x.1, ()) k pt1 (h0_ad x.1 (i : Int) out)) (fun k out ho => ?_) (fun k i y r out hd hi ho => ?_) _ ?_).trans ?_
  · rw [rd0_ad, Qad (Nat.le_refl _)]; rfl
  · rw [rd0_ad, Qae hi, Qae (ho.symm ▸ hi), Qaf hi, Qag (by omega), Int.toNat_natCast, Qab hd]; rfl
  · rw [List.length_replicate]; exact Int.toNat_natCast _
  · rw [List.map_id'])⟩
theorem s_ac : C_ac (fun x => decide (List.length x.1 <= 4294967296)) (fun x => (x.1, ())) := S_ac s_ab fun x hx => ⟨List.length x.1 + 1, (ev_ac _ x.1).trans (by
  have hx : List.length x.1 <= 4294967296 := of_decide_eq_true hx
  rw [p_make hx]
  refine (Qe6 (α := MSig) x.1 (fun y => y) (fun k i out => r_ac (fun x => (x.1, ())) (fun _ => true) (x.1, ()) k pt1 (h0_ac x.1 (i : Int) out)) (fun k out ho => ?_) (fun k i y r out hd hi ho => ?_) _ ?_).trans ?_
  · rw [rd0_ac, Qad (Nat.le_refl _)]; rfl
  · rw [rd0_ac, Qae hi, Qae (ho.symm ▸ hi), Qaf hi, Qag (by omega), Int.toNat_natCast, Qab hd]; try rw [cl_eq rfl]; rfl
  · rw [List.length_replicate]; exact Int.toNat_natCast _
  · rw [List.map_id'])⟩
theorem s_aa : C_aa (fun x => smTs x.1) (fun x => (x.1, ())) := S_aa s_a9 fun x hx => ⟨List.length x.1 + 1, (ev_aa _ x.1).trans (by
  obtain ⟨h1, h2⟩ := Qgz.1 hx
  have h1 : List.length x.1 <= 4294967296 := h1
  rw [p_make h1]
  refine (Qe6 (α := MTst) x.1 (fun y => y) (fun k i out => r_aa (fun x => (x.1, ())) (fun x => decide (List.length x.1.2.2.2.2 <= 4294967296)) (x.1, ()) k pt1 (h0_aa x.1 (i : Int) out)) (fun k out ho => ?_) (fun k i y r out hd hi ho => ?_) _ ?_).trans ?_
  · rw [rd0_aa, Qad (Nat.le_refl _)]; rfl
  · have h3 : decide (List.length y.2.2.2.2 <= 4294967296) = true := decide_eq_true (h2 y (Qbt hd))
    rw [rd0_aa, Qae hi, Qae (ho.symm ▸ hi), Qaf hi, Qag (by omega), Int.toNat_natCast, Qab hd, cl_eq h3]; rfl
  · rw [List.length_replicate]; exact Int.toNat_natCast _
  · rw [List.map_id'])⟩
theorem s_ae : C_ae (fun x => smB x.1) (fun x => (x.1, ())) := S_ae s_aa s_ac s_ad fun x hx => ⟨0, (ev_ae 0 x.1).trans (by
  obtain ⟨h1, h2, h3⟩ := Qi0 hx
  rw [cl_eq h1, cl_eq h2, cl_eq h3])⟩
theorem s_cz : C_cz (fun _ => true) (fun x => (same x.1 x.2.1, ())) := S_cz fun x _ => ⟨0, (ev_cz 0 x.1 x.2.1).trans (by
  have key : ∀ a b : MSig, (bif (bif (decide (a.1 = b.1)) then false else true) then (some (false, ())) else (bif (bif (decide (a.2.1 = b.2.1)) then false else true) then (some (false, ())) else (bif (bif (decide (a.2.2 = b.2.2)) then false else true) then (some (false, ())) else (some (true, ()))))) = some (same a b, ()) := fun a b => by
    obtain ⟨a1, a2, a3⟩ := a
    obtain ⟨b1, b2, b3⟩ := b
    rw [Qdu (a1, a2, a3) b1 (b2, b3), Qdu (a2, a3) b2 b3]
    dsimp only
    rw [Qa0, Qa0, Qa0]
    cases same a1 b1 <;> cases same a2 b2 <;> cases same a3 b3 <;> rfl
  exact key x.1 x.2.1)⟩
theorem s_d1 : C_d1 (fun x => decide (List.length x.1 <= 4294967296)) (fun x => (same x.1 x.2.1, ())) := S_d1 fun x hx => ⟨List.length x.1 + 1, (ev_d1 _ x.1 x.2.1).trans (p_eqS fun hl => by
  have hx : List.length x.1 <= 4294967296 := of_decide_eq_true hx
  refine Qf0 (α := Bool) x.1 x.2.1 hl (fun k i => r_d1  (x.1, x.2.1, ()) k pt1 (h0_d1 x.1 x.2.1 (i : Int))) (fun k => ?_) (fun k i y z r r' hd hd' hi hi' => ?_)
  · rw [rd0_d1, Qad (Nat.le_refl _)]; rfl
  · rw [rd0_d1, Qae hi, Qae hi', Qaf hi, Qag (by omega), Qab hd, Qab hd']
    rw [Qiz]; cases y <;> cases z <;> rfl)⟩
theorem s_d0 : C_d0 (fun x => decide (List.length x.1 <= 4294967296)) (fun x => (same x.1 x.2.1, ())) := S_d0 s_cz fun x hx => ⟨List.length x.1 + 1, (ev_d0 _ x.1 x.2.1).trans (p_eqS fun hl => by
  have hx : List.length x.1 <= 4294967296 := of_decide_eq_true hx
  refine Qf0 (α := MSig) x.1 x.2.1 hl (fun k i => r_d0 (fun x => (same x.1 x.2.1, ())) (x.1, x.2.1, ()) k pt1 (h0_d0 x.1 x.2.1 (i : Int))) (fun k => ?_) (fun k i y z r r' hd hd' hi hi' => ?_)
  · rw [rd0_d0, Qad (Nat.le_refl _)]; rfl
  · rw [rd0_d0, Qae hi, Qae hi', Qaf hi, Qag (by omega), Qab hd, Qab hd']
    show (bif (bif same y z then false else true) then _ else _) = _
    cases same y z <;> rfl)⟩
theorem s_cy : C_cy (fun x => smTs x.1) (fun x => (same x.1 x.2.1, ())) := S_cy s_cx fun x hx => ⟨List.length x.1 + 1, (ev_cy _ x.1 x.2.1).trans (p_eqS fun hl => by
  obtain ⟨h1, h2⟩ := Qgz.1 hx
  have h1 : List.length x.1 <= 4294967296 := h1
  refine Qf0 (α := MTst) x.1 x.2.1 hl (fun k i => r_cy (fun x => (same x.1 x.2.1, ())) (fun x => decide (List.length x.1.2.2.2.2 <= 4294967296)) (x.1, x.2.1, ()) k pt1 (h0_cy x.1 x.2.1 (i : Int))) (fun k => ?_) (fun k i y z r r' hd hd' hi hi' => ?_)
  · rw [rd0_cy, Qad (Nat.le_refl _)]; rfl
  · have h3 : decide (List.length y.2.2.2.2 <= 4294967296) = true := decide_eq_true (h2 y (Qbt hd))
    rw [rd0_cy, Qae hi, Qae hi', Qaf hi, Qag (by omega), Qab hd, Qab hd', cl_eq h3]
    show (bif (bif same y z then false else true) then _ else _) = _
    cases same y z <;> rfl)⟩
theorem Qhq (a b : MBat) : (same a.1 b.1 && (same a.2.1 b.2.1 && (same a.2.2.1 b.2.2.1 && (same a.2.2.2.1 b.2.2.2.1 && (same a.2.2.2.2.1 b.2.2.2.2.1 && (same a.2.2.2.2.2 b.2.2.2.2.2 && true)))))) = same a b := by
  rw [Bool.and_true, Qax, Qax, Qax, Qax, Qax]
theorem s_d2 : C_d2 (fun x => smB x.1) (fun x => (same x.1 x.2.1, ())) := S_d2 s_cy s_d0 s_d1 fun x hx => ⟨0, (ev_d2 0 x.1 x.2.1).trans (by
  obtain ⟨a, b, u⟩ := x
  change MBat at a
  change MBat at b
  obtain ⟨h1, h2, h3⟩ := Qi0 hx
  dsimp only at h1 h2 h3 ⊢
  rw [cl_eq h1, cl_eq h2, cl_eq h3, <- Qhq a b, Qa0, Qa0, Qa0]
  exact Qdw (Qdw (Qdw (Qdw (Qdw (Qdw rfl))))))⟩
theorem s_d6 : C_d6 (fun x => mkPre (szL (fun _ => 1)) x.1 x.2.1) (fun x => ((markL mkBool x.1 x.2.1).2, ((markL mkBool x.1 x.2.1).1, ()))) := S_d6 fun x hx => ⟨List.length x.1 + 1, (ev_d6 _ x.1 x.2.1).trans (by
  obtain ⟨h1, h2⟩ := Qan.1 hx
  have hl : List.length x.1 <= szL (fun _ => 1) x.1 := Qce (fun _ => by decide) x.1
  refine Qej (α := Bool) (mk := mkBool) (sz := fun _ => 1) Qb9.go x.1 4294967296 (fun c out => some (c, (out, ()))) (fun k i c out => r_d6 (x.1, x.2.1, ()) k pt0 (h0_d6 x.1 x.2.1 c (i : Int) out)) (fun k c out ho => ?_) (fun k i y r c out hd hi ho h0 hB => ?_) x.2.1 h1 h2
  · rw [rd0_d6]
    try simp only [lt_eq]
    rw [Qad (show out.length <= List.length x.1 by omega)]; rfl
  · have hi' : i < out.length := by omega
    have hB : c + 1 <= 4294967296 := hB
    rw [rd0_d6]
    have hr : ∀ y : Bool, rdL (e := Sh.bool) (out.set i y) (i : Int) = y := fun y => Qgy hi'
    have h0i : decide ((0 : Int) <= (i : Int)) = true := decide_eq_true (by omega)
    have h3 : (bif (decide ((3 : Int) = (0 : Int))) then false else true) = true := rfl
    simp only [lt_eq, h3, Int.toNat_natCast, List.length_set, hr, List.set_set, h0i, Qaf hi', cond_true, Qag (show i <= 4294967296 by omega)]
    rw [Qac (x := c + 1) (by omega) (by omega)]
    rfl)⟩
theorem s_db : C_db (fun x => mkPre (szL (fun _ => 1)) x.1 x.2.1) (fun x => (hdOf (markL mkBool) x.1 x.2.1, ())) := S_db fun x hx => ⟨List.length x.1 + 1, (ev_db _ x.1 x.2.1).trans (by
  obtain ⟨h1, h2⟩ := Qan.1 hx
  have hl : List.length x.1 <= szL (fun _ => 1) x.1 := Qce (fun _ => by decide) x.1
  refine Qek (α := Bool) (mk := mkBool) (sz := fun _ => 1) Qb9 x.1 4294967296 (fun k i c => r_db (x.1, x.2.1, ()) k pt0 (h0_db x.1 x.2.1 c (i : Int))) (fun k c => ?_) (fun k i y r c hd hi h0 hB => ?_) x.2.1 h1 h2
  · rw [rd0_db]
    try simp only [lt_eq]
    rw [Qad (Nat.le_refl _)]; rfl
  · have hB : c + 1 <= 4294967296 := hB
    rw [rd0_db]
    have h0i : decide ((0 : Int) <= (i : Int)) = true := decide_eq_true (by omega)
    have h3 : (bif (decide ((3 : Int) = (0 : Int))) then false else true) = true := rfl
    simp only [lt_eq, h3, h0i, Qaf hi, cond_true, Qag (show i <= 4294967296 by omega), Qab hd]
    rw [Qac (x := c + 1) (by omega) (by omega)]
    unfold mkBool
    simp only [Qdu, Qa0]
    try rw [Qiz]
    generalize (y == _) = q
    cases q <;> rfl)⟩
theorem s_d5 : C_d5 (fun x => mkPre (szL (fun _ => 3)) x.1 x.2.1) (fun x => ((markL mkSig x.1 x.2.1).2, ((markL mkSig x.1 x.2.1).1, ()))) := S_d5 fun x hx => ⟨List.length x.1 + 1, (ev_d5 _ x.1 x.2.1).trans (by
  obtain ⟨h1, h2⟩ := Qan.1 hx
  have hl : List.length x.1 <= szL (fun _ => 3) x.1 := Qce (fun _ => by decide) x.1
  refine Qej (α := MSig) (mk := mkSig) (sz := fun _ => 3) Qco.go x.1 4294967296 (fun c out => some (c, (out, ()))) (fun k i c out => r_d5 (x.1, x.2.1, ()) k pt0 (h0_d5 x.1 x.2.1 c (i : Int) out)) (fun k c out ho => ?_) (fun k i y r c out hd hi ho h0 hB => ?_) x.2.1 h1 h2
  · rw [rd0_d5]
    try simp only [lt_eq]
    rw [Qad (show out.length <= List.length x.1 by omega)]; rfl
  · have hi' : i < out.length := by omega
    have hB : c + 3 <= 4294967296 := hB
    rw [rd0_d5]
    have hr : ∀ y : MSig, rdL (e := S_BatSig) (out.set i y) (i : Int) = y := fun y => Qgy hi'
    have h0i : decide ((0 : Int) <= (i : Int)) = true := decide_eq_true (by omega)
    have h3 : (bif (decide ((3 : Int) = (0 : Int))) then false else true) = true := rfl
    simp only [lt_eq, h3, Int.toNat_natCast, List.length_set, hr, List.set_set, h0i, Qaf hi', cond_true, Qag (show i <= 4294967296 by omega)]
    rw [Qac (x := c + 1) (by omega) (by omega), Qac (x := c + 1 + 1) (by omega) (by omega), Qac (x := c + 1 + 1 + 1) (by omega) (by omega)]
    rfl)⟩
theorem s_da : C_da (fun x => mkPre (szL (fun _ => 3)) x.1 x.2.1) (fun x => (hdOf (markL mkSig) x.1 x.2.1, ())) := S_da fun x hx => ⟨List.length x.1 + 1, (ev_da _ x.1 x.2.1).trans (by
  obtain ⟨h1, h2⟩ := Qan.1 hx
  have hl : List.length x.1 <= szL (fun _ => 3) x.1 := Qce (fun _ => by decide) x.1
  refine Qek (α := MSig) (mk := mkSig) (sz := fun _ => 3) Qco x.1 4294967296 (fun k i c => r_da (x.1, x.2.1, ()) k pt0 (h0_da x.1 x.2.1 c (i : Int))) (fun k c => ?_) (fun k i y r c hd hi h0 hB => ?_) x.2.1 h1 h2
  · rw [rd0_da]
    try simp only [lt_eq]
    rw [Qad (Nat.le_refl _)]; rfl
  · have hB : c + 3 <= 4294967296 := hB
    rw [rd0_da]
    have h0i : decide ((0 : Int) <= (i : Int)) = true := decide_eq_true (by omega)
    have h3 : (bif (decide ((3 : Int) = (0 : Int))) then false else true) = true := rfl
    simp only [lt_eq, h3, h0i, Qaf hi, cond_true, Qag (show i <= 4294967296 by omega), Qab hd]
    rw [Qac (x := c + 1) (by omega) (by omega), Qac (x := c + 1 + 1) (by omega) (by omega), Qac (x := c + 1 + 1 + 1) (by omega) (by omega)]
    unfold mkSig
    simp only [Qdu, Qa0]
    cases same y.1 c <;> cases same y.2.1 (c + 1) <;> cases same y.2.2 (c + 1 + 1) <;> rfl)⟩
theorem Qfd {α β : Type} {v : α} {k : α -> β} {r : β} (h : ∀ t, t = v -> k t = r) : lt v k = r := h v rfl
theorem s_d4 : C_d4 (fun x => mkPre (szL szT) x.1 x.2.1) (fun x => ((markL mkTst x.1 x.2.1).2, ((markL mkTst x.1 x.2.1).1, ()))) := S_d4 s_d3 fun x hx => ⟨List.length x.1 + 1, (ev_d4 _ x.1 x.2.1).trans (by
  obtain ⟨h1, h2⟩ := Qan.1 hx
  have hl : List.length x.1 <= szL szT x.1 := Qce Qkw x.1
  refine Qej (α := MTst) (mk := mkTst) (sz := szT) Qcp.go x.1 4294967296 (fun c out => some (c, (out, ()))) (fun k i c out => r_d4 (fun x => ((markL mkDec x.1 x.2.1).2, ((markL mkDec x.1 x.2.1).1, ()))) (fun x => mkPre (szL (fun _ => 2)) x.1 x.2.1) (x.1, x.2.1, ()) k pt0 (h0_d4 x.1 x.2.1 c (i : Int) out)) (fun k c out ho => ?_) (fun k i y r c out hd hi ho h0 hB => ?_) x.2.1 h1 h2
  · rw [rd0_d4]
    repeat with_reducible refine Qfd fun t e => ?_
    rw [Qad (show out.length <= List.length x.1 by omega)]; rfl
  · have hi' : i < out.length := by omega
    have hB : c + ((10 + szL (fun _ => 2) y.2.2.2.2 : Nat) : Int) <= 4294967296 := hB
    rw [rd0_d4]
    have hr : ∀ y : MTst, rdL (e := S_TstTest) (out.set i y) (i : Int) = y := fun y => Qgy hi'
    have h0i : decide ((0 : Int) <= (i : Int)) = true := decide_eq_true (by omega)
    have hp : mkPre (szL (fun _ => 2)) y.2.2.2.2 (c + 1 + 1 + 1 + 1 + 1 + 1 + 1 + 1 + 1 + 1) = true := Qan.2 ⟨by omega, by omega⟩
    have hy := Qab (S := S_TstTest) hd
    have e1 : w64 (c + 1) = c + 1 := Qac (by omega) (by omega)
    have e2 : w64 (c + 1 + 1) = c + 1 + 1 := Qac (by omega) (by omega)
    have e3 : w64 (c + 1 + 1 + 1) = c + 1 + 1 + 1 := Qac (by omega) (by omega)
    have e4 : w64 (c + 1 + 1 + 1 + 1) = c + 1 + 1 + 1 + 1 := Qac (by omega) (by omega)
    have e5 : w64 (c + 1 + 1 + 1 + 1 + 1) = c + 1 + 1 + 1 + 1 + 1 := Qac (by omega) (by omega)
    have e6 : w64 (c + 1 + 1 + 1 + 1 + 1 + 1) = c + 1 + 1 + 1 + 1 + 1 + 1 := Qac (by omega) (by omega)
    have e7 : w64 (c + 1 + 1 + 1 + 1 + 1 + 1 + 1) = c + 1 + 1 + 1 + 1 + 1 + 1 + 1 := Qac (by omega) (by omega)
    have e8 : w64 (c + 1 + 1 + 1 + 1 + 1 + 1 + 1 + 1) = c + 1 + 1 + 1 + 1 + 1 + 1 + 1 + 1 := Qac (by omega) (by omega)
    have e9 : w64 (c + 1 + 1 + 1 + 1 + 1 + 1 + 1 + 1 + 1) = c + 1 + 1 + 1 + 1 + 1 + 1 + 1 + 1 + 1 := Qac (by omega) (by omega)
    have e10 : w64 (c + 1 + 1 + 1 + 1 + 1 + 1 + 1 + 1 + 1 + 1) = c + 1 + 1 + 1 + 1 + 1 + 1 + 1 + 1 + 1 + 1 := Qac (by omega) (by omega)
    repeat
      with_reducible refine Qfd fun t e => ?_
      try simp only [hy, hr, e1, e2, e3, e4, e5, e6, e7, e8, e9, e10, List.set_set, Int.toNat_natCast] at e
      subst t
    simp only [List.length_set, h0i, Qaf hi', cond_true, Qag (show i <= 4294967296 by omega), e10]
    rw [cl_eq hp]
    simp only [Int.toNat_natCast, List.set_set]
    rfl)⟩
theorem s_d9 : C_d9 (fun x => mkPre (szL szT) x.1 x.2.1) (fun x => (hdOf (markL mkTst) x.1 x.2.1, ())) := S_d9 s_d8 fun x hx => ⟨List.length x.1 + 1, (ev_d9 _ x.1 x.2.1).trans (by
  obtain ⟨h1, h2⟩ := Qan.1 hx
  have hl : List.length x.1 <= szL szT x.1 := Qce Qkw x.1
  refine Qek (α := MTst) (mk := mkTst) (sz := szT) Qcp x.1 4294967296 (fun k i c => r_d9 (fun x => (hdOf (markL mkDec) x.1 x.2.1, ())) (fun x => mkPre (szL (fun _ => 2)) x.1 x.2.1) (x.1, x.2.1, ()) k pt0 (h0_d9 x.1 x.2.1 c (i : Int))) (fun k c => ?_) (fun k i y r c hd hi h0 hB => ?_) x.2.1 h1 h2
  · rw [rd0_d9]
    repeat with_reducible refine Qfd fun t e => ?_
    rw [Qad (Nat.le_refl _)]; rfl
  · have hB : c + ((10 + szL (fun _ => 2) y.2.2.2.2 : Nat) : Int) <= 4294967296 := hB
    have hp : mkPre (szL (fun _ => 2)) y.2.2.2.2 (c + 1 + 1 + 1 + 1 + 1 + 1 + 1 + 1 + 1 + 1) = true := Qan.2 ⟨by omega, by omega⟩
    have h0i : decide ((0 : Int) <= (i : Int)) = true := decide_eq_true (by omega)
    have hy := Qab (S := S_TstTest) hd
    have e1 : w64 (c + 1) = c + 1 := Qac (by omega) (by omega)
    have e2 : w64 (c + 1 + 1) = c + 1 + 1 := Qac (by omega) (by omega)
    have e3 : w64 (c + 1 + 1 + 1) = c + 1 + 1 + 1 := Qac (by omega) (by omega)
    have e4 : w64 (c + 1 + 1 + 1 + 1) = c + 1 + 1 + 1 + 1 := Qac (by omega) (by omega)
    have e5 : w64 (c + 1 + 1 + 1 + 1 + 1) = c + 1 + 1 + 1 + 1 + 1 := Qac (by omega) (by omega)
    have e6 : w64 (c + 1 + 1 + 1 + 1 + 1 + 1) = c + 1 + 1 + 1 + 1 + 1 + 1 := Qac (by omega) (by omega)
    have e7 : w64 (c + 1 + 1 + 1 + 1 + 1 + 1 + 1) = c + 1 + 1 + 1 + 1 + 1 + 1 + 1 := Qac (by omega) (by omega)
    have e8 : w64 (c + 1 + 1 + 1 + 1 + 1 + 1 + 1 + 1) = c + 1 + 1 + 1 + 1 + 1 + 1 + 1 + 1 := Qac (by omega) (by omega)
    have e9 : w64 (c + 1 + 1 + 1 + 1 + 1 + 1 + 1 + 1 + 1) = c + 1 + 1 + 1 + 1 + 1 + 1 + 1 + 1 + 1 := Qac (by omega) (by omega)
    have e10 : w64 (c + 1 + 1 + 1 + 1 + 1 + 1 + 1 + 1 + 1 + 1) = c + 1 + 1 + 1 + 1 + 1 + 1 + 1 + 1 + 1 + 1 := Qac (by omega) (by omega)
    rw [rd0_d9]
    repeat
      with_reducible refine Qfd fun t e => ?_
      try simp only [hy, e1, e2, e3, e4, e5, e6, e7, e8, e9, e10] at e
      subst t
    simp only [h0i, Qaf hi, cond_true, Qag (show i <= 4294967296 by omega), e10]
    rw [cl_eq hp]
    have hg := Qc5.list.go y.2.2.2.2 (c + 1 + 1 + 1 + 1 + 1 + 1 + 1 + 1 + 1 + 1)
    unfold mkTst
    simp only [Qdu, Qa0]
    generalize same y.1.1 _ = b1
    generalize same y.1.2.1.1 _ = b2
    generalize same y.1.2.1.2 _ = b3
    generalize same y.1.2.2.1.1 _ = b4
    generalize same y.1.2.2.1.2 _ = b5
    generalize same y.1.2.2.2 _ = b6
    generalize same y.2.1 _ = b7
    generalize same y.2.2.1.1 _ = b8
    generalize same y.2.2.1.2 _ = b9
    generalize same y.2.2.2.1 _ = b10
    rcases Qc5.list.hd (x := y.2.2.2.2) (k := c + 1 + 1 + 1 + 1 + 1 + 1 + 1 + 1 + 1 + 1) (by omega) with ⟨g1, g2, g3⟩ | ⟨g1, g2, g3⟩
    · rw [g2, g3]
      cases b1 <;> cases b2 <;> cases b3 <;> cases b4 <;> cases b5 <;> cases b6 <;> cases b7 <;> cases b8 <;> cases b9 <;> cases b10 <;> rfl
    · have e : hdOf (markL mkDec) y.2.2.2.2 (c + 1 + 1 + 1 + 1 + 1 + 1 + 1 + 1 + 1 + 1) = (markL mkDec y.2.2.2.2 (c + 1 + 1 + 1 + 1 + 1 + 1 + 1 + 1 + 1 + 1)).2 := by rw [g2, hg]
      rw [g3, e, decide_eq_false (show ¬ (markL mkDec y.2.2.2.2 (c + 1 + 1 + 1 + 1 + 1 + 1 + 1 + 1 + 1 + 1)).2 < 0 by omega)]
      cases b1 <;> try rfl
      cases b2 <;> try rfl
      cases b3 <;> try rfl
      cases b4 <;> try rfl
      cases b5 <;> try rfl
      cases b6 <;> try rfl
      cases b7 <;> try rfl
      cases b8 <;> try rfl
      cases b9 <;> try rfl
      cases b10 <;> rfl)⟩
theorem s_d7 : C_d7 (fun x => mkPre szBI x.1 x.2.1) (fun x => ((mkBatI x.1 x.2.1).2, ((mkBatI x.1 x.2.1).1, ()))) := S_d7 s_d4 s_d5 s_d6 fun x hx => ⟨0, (ev_d7 0 x.1 x.2.1).trans (by
  obtain ⟨x, k, u⟩ := x
  change MBat at x
  change Int at k
  obtain ⟨h1, h2⟩ := Qan.1 hx
  have h1 : 0 <= k := h1
  have h2 : k + ((szL szT x.2.2.1 + szL (fun _ => 3) x.2.2.2.2.1 + szL (fun _ => 1) x.2.2.2.2.2 : Nat) : Int) <= 4294967296 := h2
  dsimp only
  have g0 := Qcp.list.go x.2.2.1 k
  have g1 := Qco.list.go x.2.2.2.2.1 (markL mkTst x.2.2.1 k).2
  have g2 := Qb9.list.go x.2.2.2.2.2 (markL mkSig x.2.2.2.2.1 (markL mkTst x.2.2.1 k).2).2
  rw [cl_eq (show mkPre (szL szT) x.2.2.1 k = true from Qan.2 ⟨by omega, by omega⟩)]
  try dsimp only
  rw [cl_eq (show mkPre (szL (fun _ => 3)) x.2.2.2.2.1 (markL mkTst x.2.2.1 k).2 = true from Qan.2 ⟨by omega, by omega⟩)]
  try dsimp only
  rw [cl_eq (show mkPre (szL (fun _ => 1)) x.2.2.2.2.2 (markL mkSig x.2.2.2.2.1 (markL mkTst x.2.2.1 k).2).2 = true from Qan.2 ⟨by omega, by omega⟩)]
  try dsimp only
  rfl)⟩
theorem s_dc : C_dc (fun x => mkPre szBI x.1 x.2.1) (fun x => (hdOf mkBatI x.1 x.2.1, ())) := S_dc s_d9 s_da s_db fun x hx => ⟨0, (ev_dc 0 x.1 x.2.1).trans (by
  obtain ⟨x, k, u⟩ := x
  change MBat at x
  change Int at k
  obtain ⟨h1, h2⟩ := Qan.1 hx
  have h1 : 0 <= k := h1
  have h2 : k + ((szL szT x.2.2.1 + szL (fun _ => 3) x.2.2.2.2.1 + szL (fun _ => 1) x.2.2.2.2.2 : Nat) : Int) <= 4294967296 := h2
  dsimp only
  have g0 := Qcp.list.go x.2.2.1 k
  have g1 := Qco.list.go x.2.2.2.2.1 (markL mkTst x.2.2.1 k).2
  have g2 := Qb9.list.go x.2.2.2.2.2 (markL mkSig x.2.2.2.2.1 (markL mkTst x.2.2.1 k).2).2
  have hs : hdOf mkBatI x k = bif (same x.2.2.1 (markL mkTst x.2.2.1 k).1 && (same x.2.2.2.2.1 (markL mkSig x.2.2.2.2.1 (markL mkTst x.2.2.1 k).2).1 && (same x.2.2.2.2.2 (markL mkBool x.2.2.2.2.2 (markL mkSig x.2.2.2.2.1 (markL mkTst x.2.2.1 k).2).2).1))) then (markL mkBool x.2.2.2.2.2 (markL mkSig x.2.2.2.2.1 (markL mkTst x.2.2.1 k).2).2).2 else -1 := by
    unfold hdOf
    rw [<- Qhq x]
    show (bif (same x.1 x.1 && (same x.2.1 x.2.1 && (same x.2.2.1 _ && (same x.2.2.2.1 x.2.2.2.1 && (same x.2.2.2.2.1 _ && (same x.2.2.2.2.2 _ && true)))))) then _ else _) = _
    rw [Qb7, Qb7, Qb7, Bool.true_and, Bool.true_and, Bool.true_and, Bool.and_true]; rfl
  rw [hs]
  rw [cl_eq (show mkPre (szL szT) x.2.2.1 k = true from Qan.2 ⟨by omega, by omega⟩)]
  rcases Qcp.list.hd (x := x.2.2.1) (k := k) (by omega) with ⟨q1, q2, q3⟩ | ⟨q1, q2, q3⟩
  · rw [q2, q3]; rfl
  · have e : hdOf (markL mkTst) x.2.2.1 k = (markL mkTst x.2.2.1 k).2 := by rw [q2, g0]
    rw [q3, e, decide_eq_false (show ¬ (markL mkTst x.2.2.1 k).2 < 0 by omega)]
    try simp only [cond_false]
    rw [cl_eq (show mkPre (szL (fun _ => 3)) x.2.2.2.2.1 (markL mkTst x.2.2.1 k).2 = true from Qan.2 ⟨by omega, by omega⟩)]
    rcases Qco.list.hd (x := x.2.2.2.2.1) (k := (markL mkTst x.2.2.1 k).2) (by omega) with ⟨q1, q2, q3⟩ | ⟨q1, q2, q3⟩
    · rw [q2, q3]; rfl
    · have e : hdOf (markL mkSig) x.2.2.2.2.1 (markL mkTst x.2.2.1 k).2 = (markL mkSig x.2.2.2.2.1 (markL mkTst x.2.2.1 k).2).2 := by rw [q2, g1]
      rw [q3, e, decide_eq_false (show ¬ (markL mkSig x.2.2.2.2.1 (markL mkTst x.2.2.1 k).2).2 < 0 by omega)]
      try simp only [cond_false]
      rw [cl_eq (show mkPre (szL (fun _ => 1)) x.2.2.2.2.2 (markL mkSig x.2.2.2.2.1 (markL mkTst x.2.2.1 k).2).2 = true from Qan.2 ⟨by omega, by omega⟩)]
      rcases Qb9.list.hd (x := x.2.2.2.2.2) (k := (markL mkSig x.2.2.2.2.1 (markL mkTst x.2.2.1 k).2).2) (by omega) with ⟨q1, q2, q3⟩ | ⟨q1, q2, q3⟩
      · rw [q2, q3]; rfl
      · have e : hdOf (markL mkBool) x.2.2.2.2.2 (markL mkSig x.2.2.2.2.1 (markL mkTst x.2.2.1 k).2).2 = (markL mkBool x.2.2.2.2.2 (markL mkSig x.2.2.2.2.1 (markL mkTst x.2.2.1 k).2).2).2 := by rw [q2, g2]
        rw [q3, e, decide_eq_false (show ¬ (markL mkBool x.2.2.2.2.2 (markL mkSig x.2.2.2.2.1 (markL mkTst x.2.2.1 k).2).2).2 < 0 by omega)]
        try simp only [cond_false]
        rfl)⟩
end Go.Proofs.YtmbmoenjhfkgkaaGreat

set_option linter.unusedVariables false
set_option linter.unusedSimpArgs false
namespace Go.Proofs.YtmbmoenjhfkgkaaGreat
open Go.Vm
theorem s_lFnExactBatTest : C_lFnExactBatTest (lawPre _) (fun _ => (true, ())) := S_lFnExactBatTest s_a5 s_ae s_a6 s_b5 s_ct s_d2 s_d7 s_dc fun x hx => ⟨0, (ev_lFnExactBatTest 0 x.1 x.2.1 x.2.2.1 x.2.2.2.1 x.2.2.2.2.1).trans (by
  have hw := (Qhk.1 hx).1
  obtain ⟨b, n, w, v, c, u⟩ := x
  change MBat at b
  change Int at n
  change Int at w
  change MDec at v
  change Int at c
  have h1 : wfBat b = true := Bool.and_eq_true_iff.2 ⟨Bool.and_eq_true_iff.2 ⟨Qbv.2 hw.2.2.1.1, List.all_eq_true.2 fun t ht => Qbv.2 (hw.2.2.1.2 t ht).2.2.2.2.1⟩, Bool.and_eq_true_iff.2 ⟨Qbv.2 hw.2.2.2.2.1.1, Qbv.2 hw.2.2.2.2.2.1⟩⟩
  have h2 : inq (1048576 : Int) 0 1048576 = true := rfl
  simp only [h1, h2, Bool.and_self, cond_true, cl]
  by_cases h : siBat b 1048576 < 0
  · simp only [decide_eq_true h, cond_true]
  · have h3 : smB b = true := Qgi (Int.le_refl _) (Int.not_lt.1 h)
    have hf := Qgj (b := b) (l := 1048576) (by decide) (Int.not_lt.1 h)
    have hm : mkPre szBI b 1 = true := Qan.2 ⟨by decide, by omega⟩
    have hr : smB (batTest b n w v c).1 = true /\ mkPre szBI (batTest b n w v c).1 1 = true := Qi7 (Ql0 (Int.not_lt.1 h))
    generalize batTest b n w v c = B at hr
    obtain ⟨B, ok⟩ := B
    obtain ⟨hr1, hr2⟩ := hr
    have hr1 : smB B = true := hr1
    have hr2 : mkPre szBI B 1 = true := hr2
    have p1 : decide ((mkBatI b 1).2 < 0) = false := Qem.pos (by decide)
    have p2 : decide ((mkBatI B 1).2 < 0) = false := Qem.pos (by decide)
    have p3 : mkPre szBI (B.1, B.2.1, (mkBatI B 1).1.2.2.1, B.2.2.2.1, (mkBatI B 1).1.2.2.2.2) 1 = true := Qem.pre hr2
    have p4 : hdOf mkBatI (B.1, B.2.1, (mkBatI B 1).1.2.2.1, B.2.2.2.1, (mkBatI B 1).1.2.2.2.2) 1 = (mkBatI B 1).2 := Qem.held B 1
    simp only [decide_eq_false h, h3, hm, hr1, hr2, p1, p2, p3, p4, Qb7, beq_self_eq_true, Bool.and_self, cond_true, cond_false, decide_eq_true_eq, decide_true])⟩

end Go.Proofs.YtmbmoenjhfkgkaaGreat
