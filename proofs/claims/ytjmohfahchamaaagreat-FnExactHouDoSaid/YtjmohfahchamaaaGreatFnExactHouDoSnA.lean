/- The functions that FnExactHouDo reaches: what each of them answers, part 1. Conditions stand in each contract. -/
import Derived.Test.YtjmohfahchamaaaGreatFnExactHouDoEq1
import Derived.Test.YtjmohfahchamaaaGreatFnExactHouDoMoA
set_option linter.unusedVariables false
set_option linter.unusedSimpArgs false
namespace Go.Proofs.YtjmohfahchamaaaGreat
open Go.Vm

theorem s_iin : C_iin (fun _ => true) (fun x => (inq x.1 x.2.1 x.2.2.1, ())) := S_iin fun x _ => ⟨0, (ev_iin 0 x.1 x.2.1 x.2.2.1).trans (by
  simp only [Qb9, Qca, Qcb]; rfl)⟩
theorem s_at : C_at (fun _ => true) (fun x => (inq x.1 x.2.1 x.2.2.1, ())) := S_at fun x _ => ⟨0, (ev_at 0 x.1 x.2.1 x.2.2.1).trans (by
  simp only [Qb9, Qca, Qcb]; rfl)⟩

/-- Ten, so many times. -/
theorem Qm8 {i : Nat} (h : i < 18) : w64 ((10 : Int) ^ i * (10 : Int)) = 10 ^ (i + 1) := by
  have : (10 : Int) ^ (i + 1) <= 10 ^ 18 := by exact_mod_cast Nat.pow_le_pow_right (by decide) (by omega)
  have h2 : (0 : Int) < 10 ^ (i + 1) := Int.pow_pos (by decide)
  rw [<- Int.pow_succ, Qae (by omega) (by omega)]

theorem p_cd (n : Int) (hn : n <= 18) : r_cd (n, ()) (n.toNat + 1) pt0 (h0_cd n (1 : Int) (0 : Int)) = some (pw n, ()) := by
  by_cases h0 : n <= 0
  · have : n.toNat = 0 := by omega
    rw [this, rd0_cd]
    have : decide ((0 : Int) < n) = false := decide_eq_false (by omega)
    rw [this]
    show some ((1 : Int), ()) = _
    unfold pw
    rw [show n.toNat = 0 by omega]; rfl
  · have hc : (n.toNat : Int) = n := by omega
    refine Qfw (σ := Unit) n.toNat (fun k i _ => r_cd (n, ()) k pt0 (h0_cd n ((10 : Int) ^ i) (i : Int))) (fun _ _ => (pw n, ())) (fun _ _ => True) (fun k s _ => ?_) (fun k i s hi _ => ?_) n.toNat 0 () (by omega) trivial
    · rw [rd0_cd, show decide ((n.toNat : Int) < n) = false from decide_eq_false (by omega)]
      rfl
    · refine .inr ⟨(), trivial, ?_, rfl⟩
      rw [rd0_cd, show decide ((i : Int) < n) = true from decide_eq_true (by omega), Qm8 (by omega), Qaf (by omega)]
      rfl
theorem s_cd : C_cd (fun x => decide (x.1 <= 18)) (fun x => (pw x.1, ())) := S_cd fun x hx => ⟨_, (ev_cd _ x.1).trans (p_cd x.1 (of_decide_eq_true hx))⟩
theorem p_au (n : Int) (hn : n <= 18) : r_au (n, ()) (n.toNat + 1) pt0 (h0_au n (1 : Int) (0 : Int)) = some (pw n, ()) := by
  by_cases h0 : n <= 0
  · have : n.toNat = 0 := by omega
    rw [this, rd0_au]
    have : decide ((0 : Int) < n) = false := decide_eq_false (by omega)
    rw [this]
    show some ((1 : Int), ()) = _
    unfold pw
    rw [show n.toNat = 0 by omega]; rfl
  · have hc : (n.toNat : Int) = n := by omega
    refine Qfw (σ := Unit) n.toNat (fun k i _ => r_au (n, ()) k pt0 (h0_au n ((10 : Int) ^ i) (i : Int))) (fun _ _ => (pw n, ())) (fun _ _ => True) (fun k s _ => ?_) (fun k i s hi _ => ?_) n.toNat 0 () (by omega) trivial
    · rw [rd0_au, show decide ((n.toNat : Int) < n) = false from decide_eq_false (by omega)]
      rfl
    · refine .inr ⟨(), trivial, ?_, rfl⟩
      rw [rd0_au, show decide ((i : Int) < n) = true from decide_eq_true (by omega), Qm8 (by omega), Qaf (by omega)]
      rfl
theorem s_au : C_au (fun x => decide (x.1 <= 18)) (fun x => (pw x.1, ())) := S_au fun x hx => ⟨_, (ev_au _ x.1).trans (p_au x.1 (of_decide_eq_true hx))⟩
theorem Qeg {n d : Int} (h : nrPre n d = true) (h0 : 0 <= n) : w64 (Int.tdiv (w64 (w64 ((2 : Int) * n) + d)) (w64 ((2 : Int) * d))) = near n d /\ decide (w64 ((2 : Int) * d) = (0 : Int)) = false /\ 0 <= near n d /\ near n d <= 2000000000000000 := by
  obtain ⟨⟨h1, h2⟩, h3, h4⟩ := Qcc.1 h
  have e1 : w64 ((2 : Int) * d) = 2 * d := Qae (by omega) (by omega)
  have e2 : w64 ((2 : Int) * n) = 2 * n := Qae (by omega) (by omega)
  have e3 : w64 (2 * n + d) = 2 * n + d := Qae (by omega) (by omega)
  have e4 : Int.tdiv (2 * n + d) (2 * d) = (2 * n + d) / (2 * d) := Int.tdiv_eq_ediv_of_nonneg (by omega)
  have a1 : 0 <= (2 * n + d) / (2 * d) := Int.ediv_nonneg (by omega) (by omega)
  have a2 : (2 * n + d) / (2 * d) <= n + d := by
    refine Int.ediv_le_of_le_mul (by omega) ?_
    have : n + d <= (n + d) * d := by
      have := Int.mul_le_mul_of_nonneg_left (show (1 : Int) <= d by omega) (show 0 <= n + d by omega)
      omega
    have e : (n + d) * (2 * d) = 2 * ((n + d) * d) := by rw [Int.mul_left_comm]
    omega
  have e5 : near n d = (2 * n + d) / (2 * d) := by unfold near; rw [if_neg (by omega)]
  rw [e1, e2, e3, e4, e5]
  exact ⟨Qae (by omega) (by omega), decide_eq_false (by omega), a1, by omega⟩

theorem Ql7 {n d : Int} (h : n < 0) : near n d = -(near (-n) d) := by
  unfold near; rw [if_pos h, if_neg (by omega)]
theorem p_inearest_up {n d : Int} {g p} (h : nrPre n d = true) (h0 : 0 <= n) : E_cf g p 0 (n, d, ()) = some (near n d, ()) := (ev_cf 0 n d).trans (by
  obtain ⟨h1, h2, _⟩ := Qeg h h0
  rw [show decide (n < (0 : Int)) = false from decide_eq_false (by omega), h2, h1]
  rfl)
theorem s_inearest_up : C_cf (fun x => nrPre x.1 x.2.1 && decide (0 <= x.1)) (fun x => (near x.1 x.2.1, ())) := S_cf (S0_cf (fn := fun _ => (0, ()))) fun x hx => ⟨0, p_inearest_up (Bool.and_eq_true_iff.1 hx).1 (of_decide_eq_true (Bool.and_eq_true_iff.1 hx).2)⟩
theorem p_cf {n d : Int} (hx : nrPre n d = true) : E_cf (fun x => (near x.1 x.2.1, ())) (fun x => nrPre x.1 x.2.1 && decide (0 <= x.1)) 0 (n, d, ()) = some (near n d, ()) := by
  obtain ⟨⟨h1, h2⟩, h3, h4⟩ := Qcc.1 hx
  by_cases h0 : n < 0
  · refine (ev_cf 0 n d).trans ?_
    have e : w64 ((0 : Int) - n) = -n := by rw [Qae (by omega) (by omega)]; omega
    have hp : nrPre (-n) d = true := Qcc.2 ⟨⟨by omega, by omega⟩, h3, h4⟩
    obtain ⟨_, _, g1, g2⟩ := Qeg hp (by omega)
    rw [show decide (n < (0 : Int)) = true from decide_eq_true h0, e]
    simp only [cond_true, hp, show decide (0 <= -n) = true from decide_eq_true (by omega), Bool.and_self]
    rw [Ql7 h0, show w64 ((0 : Int) - near (-n) d) = -near (-n) d from by rw [Qae (by omega) (by omega)]; omega]
  · exact p_inearest_up hx (by omega)
theorem s_cf : C_cf (fun x => nrPre x.1 x.2.1) (fun x => (near x.1 x.2.1, ())) := S_cf s_inearest_up fun x hx => ⟨0, p_cf hx⟩
theorem p_sl1Near_up {n d : Int} {g p} (h : nrPre n d = true) (h0 : 0 <= n) : E_aw g p 0 (n, d, ()) = some (near n d, ()) := (ev_aw 0 n d).trans (by
  obtain ⟨h1, h2, _⟩ := Qeg h h0
  rw [show decide (n < (0 : Int)) = false from decide_eq_false (by omega), h2, h1]
  rfl)
theorem s_sl1Near_up : C_aw (fun x => nrPre x.1 x.2.1 && decide (0 <= x.1)) (fun x => (near x.1 x.2.1, ())) := S_aw (S0_aw (fn := fun _ => (0, ()))) fun x hx => ⟨0, p_sl1Near_up (Bool.and_eq_true_iff.1 hx).1 (of_decide_eq_true (Bool.and_eq_true_iff.1 hx).2)⟩
theorem p_aw {n d : Int} (hx : nrPre n d = true) : E_aw (fun x => (near x.1 x.2.1, ())) (fun x => nrPre x.1 x.2.1 && decide (0 <= x.1)) 0 (n, d, ()) = some (near n d, ()) := by
  obtain ⟨⟨h1, h2⟩, h3, h4⟩ := Qcc.1 hx
  by_cases h0 : n < 0
  · refine (ev_aw 0 n d).trans ?_
    have e : w64 ((0 : Int) - n) = -n := by rw [Qae (by omega) (by omega)]; omega
    have hp : nrPre (-n) d = true := Qcc.2 ⟨⟨by omega, by omega⟩, h3, h4⟩
    obtain ⟨_, _, g1, g2⟩ := Qeg hp (by omega)
    rw [show decide (n < (0 : Int)) = true from decide_eq_true h0, e]
    simp only [cond_true, hp, show decide (0 <= -n) = true from decide_eq_true (by omega), Bool.and_self]
    rw [Ql7 h0, show w64 ((0 : Int) - near (-n) d) = -near (-n) d from by rw [Qae (by omega) (by omega)]; omega]
  · exact p_sl1Near_up hx (by omega)
theorem s_aw : C_aw (fun x => nrPre x.1 x.2.1) (fun x => (near x.1 x.2.1, ())) := S_aw s_sl1Near_up fun x hx => ⟨0, p_aw hx⟩

end Go.Proofs.YtjmohfahchamaaaGreat

set_option linter.unusedVariables false
set_option linter.unusedSimpArgs false
namespace Go.Proofs.YtjmohfahchamaaaGreat
open Go.Vm

theorem s_ce : C_ce (fun _ => true) (fun x => (decOk x.1, ())) := S_ce s_iin s_cd fun x _ => ⟨0, (ev_ce 0 x.1).trans (p_decOk x.1)⟩
theorem s_av : C_av (fun _ => true) (fun x => (decOk x.1, ())) := S_av s_at s_au fun x _ => ⟨0, (ev_av 0 x.1).trans (p_decOk x.1)⟩
theorem s_cg : C_cg (fun _ => true) (fun x => (decAt x.1 x.2.1, ())) := S_cg s_ce s_iin s_cd s_cf fun x _ => ⟨0, (ev_cg 0 x.1 x.2.1).trans (p_decAt x.1 x.2.1 _ fun h1 h2 => p_atR h1 h2)⟩
theorem s_ax : C_ax (fun x => decOk x.1 && inq x.2.1 0 3) (fun x => (atR x.1 x.2.1, ())) := S_ax s_au s_aw fun x hx => ⟨0, (ev_ax 0 x.1 x.2.1).trans (p_atR (Bool.and_eq_true_iff.1 hx).1 (Bool.and_eq_true_iff.1 hx).2)⟩
theorem s_ch : C_ch (fun _ => true) (fun _ => (false, ())) := S_ch fun x _ => ⟨0, (ev_ch 0 x.1).trans (by
  rw [decide_eq_true rfl]; rfl)⟩
theorem s_ci : C_ci (fun _ => true) (fun x => (cmpI x.1 x.2.1, ())) := S_ci s_ch fun x _ => ⟨0, (ev_ci 0 x.1 x.2.1).trans (p_cmpI x.1 x.2.1)⟩
theorem s_cj : C_cj (fun _ => true) (fun x => (decCmp x.1 x.2.1, ())) := S_cj s_ce s_cg s_ci fun x _ => ⟨0, (ev_cj 0 x.1 x.2.1).trans (p_decCmp x.1 x.2.1 _ fun h1 h2 => by
  unfold decAt
  simp only [h1, h2, in03, Bool.and_self, cond_true])⟩
theorem s_ay : C_ay (fun _ => true) (fun x => (decCmp x.1 x.2.1, ())) := S_ay s_av s_ax fun x _ => ⟨0, (ev_ay 0 x.1 x.2.1).trans (p_decCmp x.1 x.2.1 _ fun h1 h2 => by
  simp only [h1, h2, in03, Bool.and_self, cond_true]
  exact p_cmpI _ _)⟩
theorem s_cc : C_cc (fun _ => true) (fun x => (inq x.1 1 4, ())) := S_cc s_iin fun x _ => ⟨0, ev_cc 0 x.1⟩
theorem s_ck : C_ck (fun _ => true) (fun x => (askOk x.1, ())) := S_ck s_cc s_ce s_cj s_iin fun x _ => ⟨0, (ev_ck 0 x.1).trans (by
  simp only [Qb9, Qca, Qcb]; rfl)⟩
theorem s_az : C_az (fun _ => true) (fun x => (askOk x.1, ())) := S_az s_at s_av s_ay fun x _ => ⟨0, (ev_az 0 x.1).trans (by
  simp only [Qb9, Qca, Qcb]; rfl)⟩
theorem s_cs : C_cs (fun _ => true) (fun x => (spcIn x.1 x.2.1, ())) := S_cs s_ck s_ce s_cg s_cj fun x _ => ⟨0, (ev_cs 0 x.1 x.2.1).trans (p_spcIn x.1 x.2.1 _ fun h1 h2 => by
  have h3 := Qh5 h1
  have e : decAt x.2.1 x.1.2.2.2 = atR x.2.1 x.1.2.2.2 := by unfold decAt; rw [h2, h3]; rfl
  simp only [e, Qb9, Qca, Qcb])⟩
theorem s_b3 : C_b3 (fun _ => true) (fun x => (spcIn x.1 x.2.1, ())) := S_b3 s_az s_av s_ax s_ay fun x _ => ⟨0, (ev_b3 0 x.1 x.2.1).trans (p_spcIn x.1 x.2.1 _ fun h1 h2 => by
  simp only [h2, Qh5 h1, Bool.and_self, cond_true, Qb9, Qca, Qcb])⟩

end Go.Proofs.YtjmohfahchamaaaGreat

set_option linter.unusedVariables false
set_option linter.unusedSimpArgs false
namespace Go.Proofs.YtjmohfahchamaaaGreat
open Go.Vm

theorem s_ae : C_ae (fun _ => true) (fun x => (x.1, ())) := S_ae fun x _ => ⟨0, ev_ae 0 x.1⟩
theorem s_af : C_af (fun _ => true) (fun x => (x.1, ())) := S_af s_ae fun x _ => ⟨0, ev_af 0 x.1⟩

theorem p_cl (xs : List MAsk) (hx : xs.length <= 4294967296) : r_cl (fun x => (askOk x.1, ())) (fun x => (inq x.1 x.2.1 x.2.2.1, ())) (xs, ()) (xs.length + 1) pt1 (h0_cl xs (xs.length : Int) ((0 : Nat) : Int)) = some (asksOk none xs && inq xs.length 1 4, ()) := by
  refine Qkc xs hx (inq xs.length 1 4) (fun k i => r_cl (fun x => (askOk x.1, ())) (fun x => (inq x.1 x.2.1 x.2.2.1, ())) (xs, ()) k pt1 (h0_cl xs (xs.length : Int) (i : Int))) (fun k => ?_) (fun k i x r hd hi => ?_)
  · rw [rd0_cl, Qab (Nat.le_refl _)]; rfl
  · rw [rd0_cl, Qac hi, Qad hi, Qaf (by omega)]
    exact Qkd hx hd hi _ (fun j => rdL (e := S_SpcTest) xs j) (fun j hj => Qg4 j hj)
theorem s_cl : C_cl (fun x => decide (List.length x.1 <= 4294967296)) (fun x => (testsOk x.1, ())) := S_cl s_ck s_iin fun x hx => ⟨_, (ev_cl _ x.1).trans ((p_cl x.1 (of_decide_eq_true hx)).trans (by
  unfold testsOk; rw [Bool.and_comm]))⟩

theorem p_b0 (xs : List MAsk) (hx : xs.length <= 4294967296) : r_b0 (fun x => (inq x.1 x.2.1 x.2.2.1, ())) (fun x => (askOk x.1, ())) (xs, ()) (xs.length + 1) pt0 (h0_b0 xs ((0 : Nat) : Int)) = some (asksOk none xs && true, ()) := by
  refine Qkc xs hx true (fun k i => r_b0 (fun x => (inq x.1 x.2.1 x.2.2.1, ())) (fun x => (askOk x.1, ())) (xs, ()) k pt0 (h0_b0 xs (i : Int))) (fun k => ?_) (fun k i x r hd hi => ?_)
  · rw [rd0_b0, Qab (Nat.le_refl _)]; rfl
  · rw [rd0_b0, Qac hi, Qad hi, Qaf (by omega)]
    exact Qkd hx hd hi _ (fun j => rdL (e := S_SpcTest) xs j) (fun j hj => Qg4 j hj)
theorem s_b0 : C_b0 (fun _ => true) (fun x => (testsOk x.1, ())) := S_b0 s_at s_az fun x _ => ⟨List.length x.1 + 1, (ev_b0 _ x.1).trans (by
  unfold testsOk
  cases h : inq (List.length x.1) 1 4
  · rfl
  · have := Qah.1 h
    refine (p_b0 x.1 (by omega)).trans ?_
    rw [Bool.and_true]; rfl)⟩

theorem s_a1 : C_a1 (fun x => okLen (List.length x.1) && inq x.2.1 0 1048576) (fun x => (if x.2.1 < (List.length x.1 : Int) then -1 else x.2.1 - (List.length x.1 : Int), ())) := S_a1 fun x hx => ⟨0, (ev_a1 0 x.1 x.2.1).trans (by
  have key : ∀ (n : Nat) (l : Int), n <= 9223372036854775807 -> 0 <= l -> l <= 1048576 -> (bif (decide ((w64 (l - (n : Int))) < (0 : Int))) then (some ((-1 : Int), ())) else (some ((w64 (l - (n : Int))), ()))) = some (if l < (n : Int) then -1 else l - (n : Int), ()) := fun n l h1 h2 h3 => by
    rw [Qae (by omega) (by omega)]
    by_cases h : l < n
    · rw [if_pos h, decide_eq_true (by omega)]; rfl
    · rw [if_neg h, decide_eq_false (by omega)]; rfl
  have h := Bool.and_eq_true_iff.1 hx
  have h2 := Qah.1 h.2
  exact key _ _ (Qaz.1 h.1) h2.1 h2.2)⟩

theorem p_make {n : Nat} {α : Type} {X : Option α} (h : n <= 4294967296) : (bif (bif (bif (decide ((0 : Int) <= (n : Int))) then (decide ((n : Int) <= (BIG : Int))) else false) then (decide ((n : Int) = (n : Int))) else false) then X else none) = X := by
  rw [decide_eq_true (show (0 : Int) <= (n : Int) by omega), decide_eq_true (show (n : Int) <= (BIG : Int) by show (n : Int) <= ((4294967296 : Nat) : Int); omega), decide_eq_true rfl]; rfl

theorem s_ag : C_ag (fun x => decide (List.length x.1 <= 4294967296)) (fun x => (x.1, ())) := S_ag s_af fun x hx => ⟨List.length x.1 + 1, (ev_ag _ x.1).trans (by
  have hx : List.length x.1 <= 4294967296 := of_decide_eq_true hx
  rw [p_make hx]
  refine (Qcq (α := MAsk) x.1 (fun y => y) (fun k i out => r_ag (fun x => (x.1, ())) (x.1, ()) k pt0 (h0_ag x.1 (i : Int) out)) (fun k out ho => ?_) (fun k i y r out hd hi ho => ?_) _ ?_).trans ?_
  · rw [rd0_ag, Qab (Nat.le_refl _)]; rfl
  · rw [rd0_ag, Qac hi, Qac (ho.symm ▸ hi), Qad hi, Qaf (by omega), Int.toNat_natCast, Qaa hd]; rfl
  · rw [List.length_replicate]; exact Int.toNat_natCast _
  · rw [List.map_id'])⟩

theorem s_fb : C_fb (fun _ => true) (fun x => (same x.1 x.2.1, ())) := S_fb fun x _ => ⟨0, (ev_fb 0 x.1 x.2.1).trans (by
  simp only [Qa1, Qck, Qb9, Qca, Qcb, Qar, Bool.and_true]
  exact congrArg (fun b => some (b, ())) (Qao _ _ _ _))⟩
theorem s_fc : C_fc (fun _ => true) (fun x => (same x.1 x.2.1, ())) := S_fc s_fb fun x _ => ⟨0, (ev_fc 0 x.1 x.2.1).trans (by
  simp only [Qa1, Qck, Qb9, Qca, Qcb, Qar, Bool.and_true]
  refine congrArg (fun b => some (b, ())) ?_
  rw [Qao, Qao, Qao])⟩

/-- Two rows of one length, and the loop over them. -/
theorem p_eqS {α : Type} {xs ys : List α} {X : Option (Bool × Unit)} (h : xs.length = ys.length -> X = some (same xs ys, ())) : (bif (bif (decide ((xs.length : Int) = (ys.length : Int))) then false else true) then (some (false, ())) else X) = some (same xs ys, ()) := by
  by_cases hl : xs.length = ys.length
  · rw [decide_eq_true (by omega)]; exact h hl
  · rw [decide_eq_false (by omega), Qc0 fun e => hl (by rw [e])]; rfl

theorem s_fd : C_fd (fun x => decide (List.length x.1 <= 4294967296)) (fun x => (same x.1 x.2.1, ())) := S_fd s_fc fun x hx => ⟨List.length x.1 + 1, (ev_fd _ x.1 x.2.1).trans (p_eqS fun hl => by
  have hx : List.length x.1 <= 4294967296 := of_decide_eq_true hx
  refine Qcl (α := MAsk) x.1 x.2.1 hl (fun k i => r_fd (fun x => (same x.1 x.2.1, ())) (x.1, x.2.1, ()) k pt0 (h0_fd x.1 x.2.1 (i : Int))) (fun k => ?_) (fun k i y z r r' hd hd' hi hi' => ?_)
  · rw [rd0_fd, Qab (Nat.le_refl _)]; rfl
  · rw [rd0_fd, Qac hi, Qac hi', Qad hi, Qaf (by omega), Qaa hd, Qaa hd', Qa1, Qck]; rfl)⟩

end Go.Proofs.YtjmohfahchamaaaGreat

set_option linter.unusedVariables false
set_option linter.unusedSimpArgs false
namespace Go.Proofs.YtjmohfahchamaaaGreat
open Go.Vm

theorem s_a2 : C_a2 (fun x => okLen (List.length x.1.1) && inq x.2.1 0 1048576) (fun x => (szSpc x.1 x.2.1, ())) := S_a2 s_a1 fun x hx => ⟨0, (ev_a2 0 x.1 x.2.1).trans (by
  have hx : (okLen (List.length x.1.1) && inq x.2.1 0 1048576) = true := hx
  simp only [hx, cond_true]
  have key : ∀ (s : MSpc) (l : Int), 0 <= l -> (bif decide ((if l < (s.1.length : Int) then -1 else l - (s.1.length : Int)) < (0 : Int)) then (some ((-1 : Int), ())) else (some ((if l < (s.1.length : Int) then -1 else l - (s.1.length : Int)), ()))) = some (szSpc s l, ()) := fun s l h => by
    unfold szSpc szAsk
    by_cases h1 : l < (s.1.length : Int)
    · rw [if_pos h1]; rfl
    · rw [if_neg h1, decide_eq_false (by omega)]; rfl
  exact key x.1 x.2.1 (Qah.1 (Bool.and_eq_true_iff.1 hx).2).1)⟩

/-- Lists that came in. -/
def wfSpcs (l : List MSpc) : Bool := okLen l.length && l.all (fun s => okLen s.1.length)
theorem s_a3 : C_a3 (fun x => wfSpcs x.1 && inq x.2.1 0 1048576) (fun x => (szList szSpc x.1 x.2.1, ())) := S_a3 s_a2 fun x hx => ⟨List.length x.1 + 1, (ev_a3 _ x.1 x.2.1).trans (by
  obtain ⟨h1, h2⟩ := Bool.and_eq_true_iff.1 hx
  obtain ⟨h3, h4⟩ := Bool.and_eq_true_iff.1 h1
  obtain ⟨h5, h6⟩ := Qah.1 h2
  have h4 : ∀ s ∈ (x.1 : List MSpc), okLen s.1.length = true := fun s hs => List.all_eq_true.1 h4 s hs
  refine p_sz0 (Qaz.1 h3) h5 h6 fun hle => ?_
  have key : ∀ (xs : List MSpc) (l l0 : Int), xs.length <= 1048576 -> 0 <= l -> l <= 1048576 -> (∀ s ∈ xs, okLen s.1.length = true) -> r_a3 (fun x => (szSpc x.1 x.2.1, ())) (fun x => okLen (List.length x.1.1) && inq x.2.1 0 1048576) (xs, l0, ()) (xs.length + 1) pt2 (h0_a3 xs l0 l ((0 : Nat) : Int)) = some (szGo szSpc xs l, ()) := fun xs l l0 hx h0 h1 hm => by
    refine Qjp xs szSpc (fun s l h => Qlu _ _ h) (fun k i l => r_a3 _ _ (xs, l0, ()) k pt2 (h0_a3 xs l0 l (i : Int))) (fun k l => ?_) (fun k i y r l hd hi g0 g1 => ?_) l h0 h1
    · rw [rd0_a3, Qab (Nat.le_refl _)]; rfl
    · rw [rd0_a3, Qac hi, Qad hi, Qaf (by omega), Qaa hd]
      have : (okLen (List.length y.1) && inq l 0 1048576) = true := Bool.and_eq_true_iff.2 ⟨hm y (Qas hd), Qah.2 ⟨g0, g1⟩⟩
      simp only [this, cond_true]
  have e : w64 ((x.2.1 : Int) - ((List.length x.1 : Nat) : Int)) = x.2.1 - ((List.length x.1 : Nat) : Int) := Qae (Int.le_trans (by decide) (Int.sub_nonneg.2 hle)) (Int.le_trans (Int.sub_le_self _ (Int.natCast_nonneg _)) (Int.le_trans h6 (by decide)))
  rw [e]
  exact key x.1 _ x.2.1 (Int.ofNat_le.1 (show ((List.length x.1 : Nat) : Int) <= ((1048576 : Nat) : Int) from Int.le_trans hle h6)) (Int.sub_nonneg.2 hle) (Int.le_trans (Int.sub_le_self _ (Int.natCast_nonneg _)) h6) h4)⟩

theorem s_ah : C_ah (fun x => smA x.1.1) (fun x => (x.1, ())) := S_ah s_ag fun x hx => ⟨0, (ev_ah 0 x.1).trans (by
  have hx : decide (List.length x.1.1 <= 4294967296) = true := hx
  rw [hx]; rfl)⟩
theorem s_ai : C_ai (fun x => smS x.1) (fun x => (x.1, ())) := S_ai s_ah fun x hx => ⟨List.length x.1 + 1, (ev_ai _ x.1).trans (by
  obtain ⟨h1, h2⟩ := Qbc.1 hx
  have h1 : List.length x.1 <= 4294967296 := h1
  rw [p_make h1]
  refine (Qcq (α := MSpc) x.1 (fun y => y) (fun k i out => r_ai (fun x => (x.1, ())) (fun x => smA x.1.1) (x.1, ()) k pt0 (h0_ai x.1 (i : Int) out)) (fun k out ho => ?_) (fun k i y r out hd hi ho => ?_) _ ?_).trans ?_
  · rw [rd0_ai, Qab (Nat.le_refl _)]; rfl
  · have h3 : smA y.1 = true := decide_eq_true (h2 y (Qas hd))
    rw [rd0_ai, Qac hi, Qac (ho.symm ▸ hi), Qad hi, Qaf (by omega), Int.toNat_natCast, Qaa hd]
    simp only [h3, cond_true]
  · rw [List.length_replicate]; exact Int.toNat_natCast _
  · rw [List.map_id'])⟩

theorem s_fe : C_fe (fun x => smA x.1.1) (fun x => (same x.1 x.2.1, ())) := S_fe s_fd fun x hx => ⟨0, (ev_fe 0 x.1 x.2.1).trans (by
  have hx : decide (List.length x.1.1 <= 4294967296) = true := hx
  rw [hx]
  simp only [cond_true, Qa1, Qck, Qb9, Qca, Qcb, Qar, Bool.and_true]
  exact congrArg (fun b => some (b, ())) (Qao _ _ _ _))⟩
theorem s_ff : C_ff (fun x => smS x.1) (fun x => (same x.1 x.2.1, ())) := S_ff s_fe fun x hx => ⟨List.length x.1 + 1, (ev_ff _ x.1 x.2.1).trans (p_eqS fun hl => by
  obtain ⟨h1, h2⟩ := Qbc.1 hx
  have h1 : List.length x.1 <= 4294967296 := h1
  refine Qcl (α := MSpc) x.1 x.2.1 hl (fun k i => r_ff (fun x => (same x.1 x.2.1, ())) (fun x => smA x.1.1) (x.1, x.2.1, ()) k pt0 (h0_ff x.1 x.2.1 (i : Int))) (fun k => ?_) (fun k i y z r r' hd hd' hi hi' => ?_)
  · rw [rd0_ff, Qab (Nat.le_refl _)]; rfl
  · have h3 : smA y.1 = true := decide_eq_true (h2 y (Qas hd))
    rw [rd0_ff, Qac hi, Qac hi', Qad hi, Qaf (by omega), Qaa hd, Qaa hd']
    simp only [h3, cond_true, Qa1, Qck])⟩

theorem p_b1 (xs : List MSpc) (hx : xs.length <= 4294967296) : r_b1 (fun x => (testsOk x.1, ())) (fun x => (inq x.1 x.2.1 x.2.2.1, ())) (xs, ()) (xs.length + 1) pt2 (h0_b1 xs 0 ((0 : Nat) : Int)) = some (xs.all spcOk1 && decide (force xs <= 1), ()) := by
  refine Qke xs hx (fun c => decide (c <= 1)) (fun k i c => r_b1 (fun x => (testsOk x.1, ())) (fun x => (inq x.1 x.2.1 x.2.2.1, ())) (xs, ()) k pt2 (h0_b1 xs c (i : Int))) (fun k c => ?_) (fun k i x r c hd hi h0 h1 => ?_)
  · rw [rd0_b1, Qab (Nat.le_refl _)]; rfl
  · rw [rd0_b1, Qac hi, Qad hi, Qaf (by omega), Qaa hd, Qae (x := c + 1) (by omega) (by omega)]
    unfold spcOk1
    cases testsOk x.1 <;> cases inq x.2 1 3 <;> rfl
theorem s_b1 : C_b1 (fun _ => true) (fun x => (spcsOk x.1, ())) := S_b1 s_b0 s_at fun x hx => ⟨List.length x.1 + 1, (ev_b1 _ x.1).trans (by
  have key : ∀ xs : List MSpc, (bif decide ((6 : Int) < (xs.length : Int)) then some (false, ()) else r_b1 (fun x => (testsOk x.1, ())) (fun x => (inq x.1 x.2.1 x.2.2.1, ())) (xs, ()) (xs.length + 1) pt2 (h0_b1 xs 0 ((0 : Nat) : Int))) = some (spcsOk xs, ()) := fun xs => by
    unfold spcsOk
    by_cases h : (6 : Int) < (xs.length : Int)
    · rw [decide_eq_true h, decide_eq_false (by omega)]; rfl
    · rw [decide_eq_false h, decide_eq_true (by omega)]; exact p_b1 xs (by omega)
  exact key x.1)⟩
theorem p_cm (xs : List MSpc) (hx : xs.length <= 4294967296) (hs : ∀ s ∈ xs, s.1.length <= 4294967296) : r_cm (fun x => (testsOk x.1, ())) (fun x => decide (List.length x.1 <= 4294967296)) (fun x => (inq x.1 x.2.1 x.2.2.1, ())) (xs, ()) (xs.length + 1) pt0 (h0_cm xs 0 (xs.length : Int) ((0 : Nat) : Int)) = some (xs.all spcOk1 && (decide (xs.length <= 6) && decide (force xs <= 1)), ()) := by
  refine Qke xs hx (fun c => decide (xs.length <= 6) && decide (c <= 1)) (fun k i c => r_cm (fun x => (testsOk x.1, ())) (fun x => decide (List.length x.1 <= 4294967296)) (fun x => (inq x.1 x.2.1 x.2.2.1, ())) (xs, ()) k pt0 (h0_cm xs c (xs.length : Int) (i : Int))) (fun k c => ?_) (fun k i x r c hd hi h0 h1 => ?_)
  · rw [rd0_cm, Qab (Nat.le_refl _)]
    by_cases h : xs.length <= 6
    · rw [decide_eq_true h, decide_eq_true (show ((xs.length : Int)) <= 6 by omega)]; rfl
    · rw [decide_eq_false h, decide_eq_false (show ¬ ((xs.length : Int)) <= 6 by omega)]; rfl
  · have h3 : decide (x.1.length <= 4294967296) = true := decide_eq_true (hs x (Qas hd))
    rw [rd0_cm, Qac hi, Qad hi, Qaf (by omega), Qaa hd, Qae (x := c + 1) (by omega) (by omega)]
    simp only [h3]
    unfold spcOk1
    cases testsOk x.1 <;> cases inq x.2 1 3 <;> rfl
theorem s_cm : C_cm (fun x => smS x.1) (fun x => (spcsOk x.1, ())) := S_cm s_cl s_iin fun x hx => ⟨_, (ev_cm _ x.1).trans ((p_cm x.1 (Qbc.1 hx).1 (Qbc.1 hx).2).trans (by
  unfold spcsOk; rw [Bool.and_left_comm]))⟩

end Go.Proofs.YtjmohfahchamaaaGreat

set_option linter.unusedVariables false
set_option linter.unusedSimpArgs false
namespace Go.Proofs.YtjmohfahchamaaaGreat
open Go.Vm

theorem Qjr (a b : MDec) : Sh.beq S_DecDec a b = same a b := by
  show (decide (a.1 = b.1) && decide (a.2 = b.2)) = _
  rw [Qar, Qar, Qao]

theorem s_cn : C_cn (fun _ => true) (fun x => (!decOk x.1, ())) := S_cn s_ce fun x _ => ⟨0, (ev_cn 0 x.1).trans (by simp only [Qa1])⟩
theorem s_co : C_co (fun x => decide (List.length x.1 <= 4294967296)) (fun x => (idxOf (fun d => !decOk d) x.1 0, ())) := S_co s_cn fun x hx => ⟨List.length x.1 + 1, (ev_co _ x.1 x.2.1).trans (by
  have hx : List.length x.1 <= 4294967296 := of_decide_eq_true hx
  refine Qbg (α := MDec) x.1 (fun d => !decOk d) (fun k i => r_co (fun x => (!decOk x.1, ())) (x.1, x.2.1, ()) k pt1 (h0_co x.1 x.2.1 (List.length x.1 : Int) (i : Int))) (fun k => ?_) (fun k i y r hd hi => ?_)
  · rw [rd0_co, Qab (Nat.le_refl _)]; rfl
  · rw [rd0_co, Qac hi, Qad hi, Qaf (by omega), Qaa hd]; rfl)⟩
theorem s_cp : C_cp (fun x => decide (List.length x.1 <= 4294967296)) (fun x => (List.any x.1 (fun d => !decOk d), ())) := S_cp s_co fun x hx => ⟨0, (ev_cp 0 x.1 x.2.1).trans (by
  have hx : decide (List.length x.1 <= 4294967296) = true := hx
  simp only [hx, cond_true, Qbl])⟩
theorem s_cq : C_cq (fun x => decide (List.length x.1 <= 4294967296)) (fun x => (List.all x.1 decOk, ())) := S_cq s_cp fun x hx => ⟨0, (ev_cq 0 x.1).trans (by
  have hx : decide (List.length x.1 <= 4294967296) = true := hx
  simp only [hx, cond_true, Qa1, Qbs])⟩

theorem s_cr : C_cr (fun _ => true) (fun x => (need x.1, ())) := S_cr fun x _ => ⟨0, (ev_cr 0 x.1).trans (by
  have key : ∀ c : Int, (bif (decide (c = (1 : Int))) then (some ((1 : Int), ())) else (bif (decide (c = (2 : Int))) then (some ((2 : Int), ())) else (some ((0 : Int), ())))) = some (need c, ()) := fun c => by
    unfold need
    by_cases h1 : c = 1
    · rw [decide_eq_true h1, if_pos h1]; rfl
    · rw [decide_eq_false h1, if_neg h1]
      by_cases h2 : c = 2
      · rw [decide_eq_true h2, if_pos h2]; rfl
      · rw [decide_eq_false h2, if_neg h2]; rfl
  exact key x.1)⟩
theorem s_b2 : C_b2 (fun _ => true) (fun x => (need x.1, ())) := S_b2 fun x _ => ⟨0, (ev_b2 0 x.1).trans (by
  have key : ∀ c : Int, (bif (decide (c = (1 : Int))) then (some ((1 : Int), ())) else (bif (decide (c = (2 : Int))) then (some ((2 : Int), ())) else (some ((0 : Int), ())))) = some (need c, ()) := fun c => by
    unfold need
    by_cases h1 : c = 1
    · rw [decide_eq_true h1, if_pos h1]; rfl
    · rw [decide_eq_false h1, if_neg h1]
      by_cases h2 : c = 2
      · rw [decide_eq_true h2, if_pos h2]; rfl
      · rw [decide_eq_false h2, if_neg h2]; rfl
  exact key x.1)⟩

theorem p_ct (l : List MDec) (p : Int) (hl : inq l.length 1 100 = true) (ho : l.all decOk = true) (hp : inq p 0 3 = true) :
    r_ct (fun x => (inq x.1 x.2.1 x.2.2.1, ())) (fun x => (List.all x.1 decOk, ())) (fun x => decide (List.length x.1 <= 4294967296)) (fun x => (decAt x.1 x.2.1, ())) (fun x => (pw x.1, ())) (fun x => decide (x.1 <= 18)) (fun x => (near x.1 x.2.1, ())) (fun x => nrPre x.1 x.2.1) (l, p, ()) (l.length + 1) pt2 (h0_ct l p 0 (l.length : Int) ((0 : Nat) : Int) (0, 0)) = some (decMean l p, ()) := by
  obtain ⟨h1, h2⟩ := Qah.1 hl
  obtain ⟨h3, h4⟩ := Qah.1 hp
  have := Qlw l (by omega) (fun c => (near (c * pw p) ((l.length : Int) * pw 3), p)) (fun k i c => r_ct (fun x => (inq x.1 x.2.1 x.2.2.1, ())) (fun x => (List.all x.1 decOk, ())) (fun x => decide (List.length x.1 <= 4294967296)) (fun x => (decAt x.1 x.2.1, ())) (fun x => (pw x.1, ())) (fun x => decide (x.1 <= 18)) (fun x => (near x.1 x.2.1, ())) (fun x => nrPre x.1 x.2.1) (l, p, ()) k pt2 (h0_ct l p c (l.length : Int) (i : Int) (0, 0))) (fun k c b1 b2 => ?_) (fun k i x r c hd hi b1 b2 => ?_)
  · refine this.trans ?_
    rw [ho]
    unfold decMean
    rw [hl, ho, hp, Qpk hl hp]; rfl
  · have hpw := pw_le h4
    have hpp := Qe1 p
    have p3 : pw 3 = 1000 := rfl
    have hpc : c * pw p <= 999900000000 /\ -999900000000 <= c * pw p := by
      rcases Qfx h4 with e | e | e | e <;> rw [e] <;> omega
    rw [rd0_ct, Qab (Nat.le_refl _)]
    simp only [cond_false, p3]
    rw [decide_eq_true (show p <= 18 by omega), Qae (x := c * pw p) (by omega) (by omega), Qae (x := (l.length : Int) * 1000) (by omega) (by omega)]
    have hn : nrPre (c * pw p) ((l.length : Int) * 1000) = true := Qcc.2 ⟨⟨by omega, by omega⟩, by omega, by omega⟩
    rw [hn]; rfl
  · have hx : decOk x = true := List.all_eq_true.1 ho x (Qas hd)
    have hb := Qgq hx
    rw [rd0_ct, Qac hi, Qad hi, Qaf (by omega), Qaa hd, hx]
    have e : decAt x 3 = atR x 3 := by unfold decAt; rw [hx]; rfl
    simp only [e, cond_true]
    rw [Qae (by omega) (by omega)]
theorem s_ct : C_ct (fun x => decide (List.length x.1 <= 4294967296)) (fun x => (decMean x.1 x.2.1, ())) := S_ct s_iin s_cq s_cg s_cd s_cf fun x hx => ⟨List.length x.1 + 1, (ev_ct _ x.1 x.2.1).trans (by
  have hx : decide (List.length x.1 <= 4294967296) = true := hx
  simp only [hx, cond_true]
  cases hl : inq (List.length x.1) 1 100
  · unfold decMean; rw [hl]; rfl
  · cases ho : List.all x.1 decOk
    · unfold decMean; rw [hl, ho]; rfl
    · cases hp : inq x.2.1 0 3
      · unfold decMean; rw [hl, ho, hp]; rfl
      · exact p_ct x.1 x.2.1 hl ho hp)⟩
theorem p_b4 (l : List MDec) (p : Int) (hl : inq l.length 1 100 = true) (hp : inq p 0 3 = true) :
    r_b4 (fun x => (inq x.1 x.2.1 x.2.2.1, ())) (fun x => (decOk x.1, ())) (fun x => (atR x.1 x.2.1, ())) (fun x => decOk x.1 && inq x.2.1 0 3) (fun x => (pw x.1, ())) (fun x => decide (x.1 <= 18)) (fun x => (near x.1 x.2.1, ())) (fun x => nrPre x.1 x.2.1) (l, p, ()) (l.length + 1) pt2 (h0_b4 l p 0 ((0 : Nat) : Int) (0, 0)) = some (decMean l p, ()) := by
  obtain ⟨h1, h2⟩ := Qah.1 hl
  obtain ⟨h3, h4⟩ := Qah.1 hp
  have := Qlw l (by omega) (fun c => (near c ((l.length : Int) * pw (3 - p)), p)) (fun k i c => r_b4 (fun x => (inq x.1 x.2.1 x.2.2.1, ())) (fun x => (decOk x.1, ())) (fun x => (atR x.1 x.2.1, ())) (fun x => decOk x.1 && inq x.2.1 0 3) (fun x => (pw x.1, ())) (fun x => decide (x.1 <= 18)) (fun x => (near x.1 x.2.1, ())) (fun x => nrPre x.1 x.2.1) (l, p, ()) k pt2 (h0_b4 l p c (i : Int) (0, 0))) (fun k c b1 b2 => ?_) (fun k i x r c hd hi b1 b2 => ?_)
  · refine this.trans ?_
    unfold decMean
    rw [hl, hp]
    cases l.all decOk <;> rfl
  · have hpw := pw_le (n := 3 - p) (by omega)
    have hpp := Qe1 (3 - p)
    have hpc : (l.length : Int) * pw (3 - p) <= 100000 /\ 1 <= (l.length : Int) * pw (3 - p) := by
      rcases Qfx (n := 3 - p) (by omega) with e | e | e | e <;> rw [e] <;> omega
    rw [rd0_b4, Qab (Nat.le_refl _)]
    simp only [cond_false]
    rw [Qae (x := 3 - p) (by omega) (by omega), decide_eq_true (show 3 - p <= 18 by omega), Qae (x := (l.length : Int) * pw (3 - p)) (by omega) (by omega)]
    have hn : nrPre c ((l.length : Int) * pw (3 - p)) = true := Qcc.2 ⟨⟨by omega, by omega⟩, by omega, by omega⟩
    rw [hn]; rfl
  · rw [rd0_b4, Qac hi, Qad hi, Qaf (by omega), Qaa hd]
    cases hx : decOk x
    · rfl
    · have hb := Qgq hx
      simp only [hx, in03, Bool.and_self, cond_true, cond_false]
      rw [Qae (by omega) (by omega)]
theorem s_b4 : C_b4 (fun x => decide (List.length x.1 <= 4294967296)) (fun x => (decMean x.1 x.2.1, ())) := S_b4 s_at s_av s_ax s_au s_aw fun x hx => ⟨List.length x.1 + 1, (ev_b4 _ x.1 x.2.1).trans (by
  have key : ∀ (l : List MDec) (p : Int) (X : Option (MDec × Unit)), (inq l.length 1 100 = true -> inq p 0 3 = true -> X = some (decMean l p, ())) -> (bif (decide ((l.length : Int) = (0 : Int))) then (some (((0 : Int), (0 : Int)), ())) else (bif (decide ((100 : Int) < (l.length : Int))) then (some (((0 : Int), (0 : Int)), ())) else (bif (bif inq p 0 3 then false else true) then (some (((0 : Int), (0 : Int)), ())) else X))) = some (decMean l p, ()) := fun l p X hX => by
    by_cases h0 : (l.length : Int) = 0
    · have : inq l.length 1 100 = false := by unfold inq; rw [decide_eq_false (by omega)]; rfl
      rw [decide_eq_true h0]; unfold decMean; rw [this]; rfl
    · by_cases h1 : (100 : Int) < (l.length : Int)
      · have : inq l.length 1 100 = false := by unfold inq; rw [decide_eq_false (show ¬ (l.length : Int) <= 100 by omega), Bool.and_false]
        rw [decide_eq_false h0, decide_eq_true h1]; unfold decMean; rw [this]; rfl
      · have hl : inq l.length 1 100 = true := Qah.2 ⟨by omega, by omega⟩
        rw [decide_eq_false h0, decide_eq_false h1]
        cases hp : inq p 0 3
        · unfold decMean; rw [hp, Bool.and_false, Bool.and_false]; rfl
        · exact hX hl hp
  exact key x.1 x.2.1 _ fun hl hp => p_b4 x.1 x.2.1 hl hp)⟩

end Go.Proofs.YtjmohfahchamaaaGreat

set_option linter.unusedVariables false
set_option linter.unusedSimpArgs false
namespace Go.Proofs.YtjmohfahchamaaaGreat
open Go.Vm

theorem rdLmore {l : List MDec} (h : l ≠ []) : rdL (e := S_DecDec) l (0 : Int) = l.getD 0 (0, 0) := rfl
theorem Qrb {l : List MDec} (h : l ≠ []) (ho : l.all decOk = true) : decOk (l.getD 0 (0, 0)) = true := by
  cases l with
  | nil => exact absurd rfl h
  | cons d r => exact List.all_eq_true.1 ho d List.mem_cons_self
theorem Qeb {t : MTst} : tlPre t = true ↔ tsPre t = true /\ (t.2.2.2.1 = 1 -> t.2.2.2.2 ≠ []) := by
  unfold tlPre
  simp only [Bool.and_eq_true, Bool.or_eq_true, Bool.not_eq_true', decide_eq_false_iff_not, List.isEmpty_eq_false_iff]
  exact ⟨fun h => ⟨h.1, fun e => h.2.resolve_left (fun hn => hn e)⟩, fun h => ⟨h.1, Classical.or_iff_not_imp_left.2 fun hn => h.2 (Classical.not_not.1 hn)⟩⟩
theorem Qrx {l : List MDec} (h : l ≠ []) : (bif (decide ((0 : Int) <= (0 : Int))) then (decide ((0 : Int) < (l.length : Int))) else false) = true := by
  have : 0 < l.length := List.length_pos_iff.2 h
  exact Qac (i := 0) this

theorem p_tell {t : MTst} (h : tlPre t = true) (A B C : Option (MDec × Unit)) (hA : t.2.2.2.2 ≠ [] -> A = some (decAt (t.2.2.2.2.getD 0 (0, 0)) t.1.2.2.2, ())) (hB : B = some (decMean (t.2.2.1 :: t.2.2.2.2) t.1.2.2.2, ())) (hC : C = some (decAt t.2.2.1 t.1.2.2.2, ())) :
    (bif (decide (t.2.2.2.1 = (1 : Int))) then (bif (bif (decide ((0 : Int) <= (0 : Int))) then (decide ((0 : Int) < (t.2.2.2.2.length : Int))) else false) then A else none) else (bif (decide (t.2.2.2.1 = (2 : Int))) then (bif (fitL [t.2.2.1] t.2.2.2.2) then B else none) else C)) = some (tell t, ()) := by
  obtain ⟨h1, h2⟩ := Qeb.1 h
  obtain ⟨_, _, _, h3⟩ := Qb6.1 h1
  unfold tell
  by_cases c1 : t.2.2.2.1 = 1
  · rw [decide_eq_true c1, if_pos c1, Qrx (h2 c1), hA (h2 c1)]; rfl
  · rw [decide_eq_false c1, if_neg c1]
    by_cases c2 : t.2.2.2.1 = 2
    · rw [decide_eq_true c2, if_pos c2, Qau (by simp; omega), hB]; rfl
    · rw [decide_eq_false c2, if_neg c2, hC]; rfl

theorem s_cu : C_cu (fun x => tlPre x.1) (fun x => (tell x.1, ())) := S_cu s_cg s_ct fun x hx => ⟨0, (ev_cu 0 x.1).trans (by
  have hx : tlPre x.1 = true := hx
  obtain ⟨_, _, _, h3⟩ := Qb6.1 (Qeb.1 hx).1
  refine p_tell hx _ _ _ (fun _ => rfl) ?_ rfl
  have : decide (List.length (List.append [x.1.2.2.1] x.1.2.2.2.2) <= 4294967296) = true := decide_eq_true (by
    show (x.1.2.2.1 :: x.1.2.2.2.2).length <= _
    rw [List.length_cons]; exact Nat.le_trans (Nat.succ_le_succ h3) (by decide))
  rw [this]; rfl)⟩
theorem s_b5 : C_b5 (fun x => tlPre x.1) (fun x => (tell x.1, ())) := S_b5 s_ax s_b4 fun x hx => ⟨0, (ev_b5 0 x.1).trans (by
  have hx : tlPre x.1 = true := hx
  obtain ⟨g1, g2, g3, h3⟩ := Qb6.1 (Qeb.1 hx).1
  have hp := Qh5 g1
  have hat : ∀ d, decOk d = true -> decAt d x.1.1.2.2.2 = atR d x.1.1.2.2.2 := fun d hd => by unfold decAt; rw [hd, hp]; rfl
  refine p_tell hx _ _ _ (fun hne => ?_) ?_ ?_
  · have ho := Qrb hne g3
    have e : (decOk (rdL (e := S_DecDec) x.1.2.2.2.2 (0 : Int)) && inq x.1.1.2.2.2 0 3) = true := by rw [rdLmore hne, ho, hp]; rfl
    rw [hat _ ho]
    simp only [e, cond_true]; rfl
  · have : decide (List.length (List.append [x.1.2.2.1] x.1.2.2.2.2) <= 4294967296) = true := decide_eq_true (by
      show (x.1.2.2.1 :: x.1.2.2.2.2).length <= _
      rw [List.length_cons]; exact Nat.le_trans (Nat.succ_le_succ h3) (by decide))
    rw [this]; rfl
  · rw [hat _ g2]
    simp only [g2, hp, Bool.and_self, cond_true])⟩

theorem s_cv : C_cv (fun _ => true) (fun x => (!spcIn x.2.1.1 x.1, ())) := S_cv s_cs fun x _ => ⟨0, (ev_cv 0 x.1 x.2.1).trans (by simp only [Qa1])⟩
theorem s_cw : C_cw (fun x => decide (List.length x.1 <= 4294967296)) (fun x => (idxOf (fun d => !spcIn x.2.1.1.1 d) x.1 0, ())) := S_cw s_cv fun x hx => ⟨List.length x.1 + 1, (ev_cw _ x.1 x.2.1).trans (by
  have hx : List.length x.1 <= 4294967296 := of_decide_eq_true hx
  refine Qbg (α := MDec) x.1 (fun d => !spcIn x.2.1.1.1 d) (fun k i => r_cw (fun x => (!spcIn x.2.1.1 x.1, ())) (x.1, x.2.1, ()) k pt1 (h0_cw x.1 x.2.1 (List.length x.1 : Int) (i : Int))) (fun k => ?_) (fun k i y r hd hi => ?_)
  · rw [rd0_cw, Qab (Nat.le_refl _)]; rfl
  · rw [rd0_cw, Qac hi, Qad hi, Qaf (by omega), Qaa hd]; rfl)⟩
theorem s_cx : C_cx (fun x => decide (List.length x.1 <= 4294967296)) (fun x => (List.any x.1 (fun d => !spcIn x.2.1.1.1 d), ())) := S_cx s_cw fun x hx => ⟨0, (ev_cx 0 x.1 x.2.1).trans (by
  have hx : decide (List.length x.1 <= 4294967296) = true := hx
  simp only [hx, cond_true, Qbl])⟩

theorem tl_of {t : MTst} (h : tsPre t = true) (hn : ¬ (t.2.2.2.2.length : Int) < need t.2.2.2.1) : tlPre t = true := by
  refine Qeb.2 ⟨h, fun e hne => ?_⟩
  rw [hne, e] at hn
  exact hn (by decide)

theorem p_state {t : MTst} (A : Option (Int × Unit)) (h3 : t.2.2.2.1 ≠ 3) (hA : ¬ (t.2.2.2.2.length : Int) < need t.2.2.2.1 -> A = some (if passes t = true then 3 else 4, ())) (h0 : t.2.2.2.1 ≠ 0) :
    (bif (decide ((t.2.2.2.2.length : Int) < need t.2.2.2.1)) then (some ((2 : Int), ())) else A) = some (stateOf t, ()) := by
  unfold stateOf
  rw [if_neg h0, if_neg h3]
  by_cases hn : (t.2.2.2.2.length : Int) < need t.2.2.2.1
  · rw [decide_eq_true hn, if_pos hn]; rfl
  · rw [decide_eq_false hn, if_neg hn, hA hn]; rfl

theorem s_cy : C_cy (fun x => tsPre x.1) (fun x => (stateOf x.1, ())) := S_cy s_cs s_cr s_cu s_cx fun x hx => ⟨0, (ev_cy 0 x.1).trans (by
  have key : ∀ t : MTst, tsPre t = true -> t.2.2.2.1 ≠ 0 -> (bif (decide ((t.2.2.2.2.length : Int) < need t.2.2.2.1)) then (some ((2 : Int), ())) else (bif (bif (decide (t.2.2.2.1 = (3 : Int))) then false else true) then (bif tlPre t then (bif spcIn t.1 (tell t) then (bif decide (t.2.2.2.2.length <= 4294967296) then (bif (bif (t.2.2.2.2.any fun d => !spcIn t.1 d) then false else true) then (some ((3 : Int), ())) else (some ((4 : Int), ()))) else none) else (some ((4 : Int), ()))) else none) else (some ((4 : Int), ())))) = some (stateOf t, ()) := fun t ht h0 => by
    obtain ⟨_, _, _, h3⟩ := Qb6.1 ht
    by_cases c3 : t.2.2.2.1 = 3
    · have hn : ¬ (t.2.2.2.2.length : Int) < need t.2.2.2.1 := by rw [c3]; unfold need; simp
      unfold stateOf
      rw [if_neg h0, if_pos c3, decide_eq_false hn, decide_eq_true c3]; rfl
    · refine p_state _ c3 (fun hn => ?_) h0
      rw [decide_eq_false c3, tl_of ht hn, decide_eq_true (show t.2.2.2.2.length <= 4294967296 by omega)]
      simp only [Qa1, Qbs, cond_true]
      unfold passes
      cases spcIn t.1 (tell t) <;> cases t.2.2.2.2.all (spcIn t.1) <;> rfl
  have hx : tsPre x.1 = true := hx
  by_cases h0 : x.1.2.2.2.1 = 0
  · unfold stateOf
    rw [if_pos h0]
    simp only [decide_eq_true h0]
    cases spcIn x.1.1 x.1.2.2.1 <;> rfl
  · have := key x.1 hx h0
    simp only [decide_eq_false h0, cond_false]
    exact this)⟩

theorem s_b6 : C_b6 (fun x => tlPre x.1) (fun x => (passes x.1, ())) := S_b6 s_b3 s_b5 fun x hx => ⟨List.length x.1.2.2.2.2 + 1, (ev_b6 _ x.1).trans (by
  have hx : tlPre x.1 = true := hx
  obtain ⟨_, _, _, h3⟩ := Qb6.1 (Qeb.1 hx).1
  have h3 : List.length x.1.2.2.2.2 <= 2 := h3
  refine Qlt (α := MDec) x.1.2.2.2.2 (spcIn x.1.1) (spcIn x.1.1 (tell x.1)) (fun k i => r_b6 (fun x => (spcIn x.1 x.2.1, ())) (fun x => (tell x.1, ())) (fun x => tlPre x.1) (x.1, ()) k pt1 (h0_b6 x.1 (i : Int))) (fun k => ?_) (fun k i y r hd hi => ?_)
  · rw [rd0_b6, Qab (Nat.le_refl _)]
    simp only [hx, cond_true, cond_false]
  · rw [rd0_b6, Qac hi, Qad hi, Qaf (by omega), Qaa hd]
    simp only [cond_true, Qa1, Qck])⟩
theorem s_b7 : C_b7 (fun x => tsPre x.1) (fun x => (stateOf x.1, ())) := S_b7 s_b3 s_b2 s_b6 fun x hx => ⟨0, (ev_b7 0 x.1).trans (by
  have hx : tsPre x.1 = true := hx
  by_cases h0 : x.1.2.2.2.1 = 0
  · unfold stateOf
    rw [if_pos h0]
    simp only [decide_eq_true h0]
    cases spcIn x.1.1 x.1.2.2.1 <;> rfl
  · simp only [decide_eq_false h0, cond_false]
    by_cases c3 : x.1.2.2.2.1 = 3
    · unfold stateOf
      rw [if_neg h0, if_pos c3, decide_eq_true c3]; rfl
    · simp only [decide_eq_false c3, cond_false]
      refine p_state (t := x.1) _ c3 (fun hn => ?_) h0
      simp only [tl_of hx hn, cond_true]
      cases passes x.1 <;> rfl)⟩

theorem p_okB (t : MTst) (A : Option (Bool × Unit)) (hA : t.2.1 ≠ 0 -> A = some (decide (t.2.1 = stateOf t) && (decide (t.2.2.2.1 = 0) || !spcIn t.1 t.2.2.1), ())) :
    (bif (decide (t.2.1 = (0 : Int))) then (bif (Sh.beq S_DecDec t.2.2.1 ((0 : Int), (0 : Int))) then (some ((decide (t.2.2.2.1 = (0 : Int))), ())) else (some (false, ()))) else A) = some (tstOkB t, ()) := by
  rw [Qjr]
  unfold tstOkB
  by_cases h : t.2.1 = 0
  · rw [decide_eq_true h]
    cases same t.2.2.1 ((0 : Int), (0 : Int)) <;> rfl
  · rw [decide_eq_false h, hA h]; rfl
theorem p_okB2 (t : MTst) : (bif (decide (t.2.1 = stateOf t)) then (bif (decide (t.2.2.2.1 = (0 : Int))) then (some (true, ())) else (some ((bif spcIn t.1 t.2.2.1 then false else true), ()))) else (some (false, ()))) = some (decide (t.2.1 = stateOf t) && (decide (t.2.2.2.1 = 0) || !spcIn t.1 t.2.2.1), ()) := by
  cases decide (t.2.1 = stateOf t) <;> cases decide (t.2.2.2.1 = 0) <;> cases spcIn t.1 t.2.2.1 <;> rfl
theorem s_cz : C_cz (fun x => decide (List.length x.1.2.2.2.2 <= 4294967296)) (fun x => (tstOk x.1, ())) := S_cz s_ck s_ce s_cq s_iin s_cr s_cy s_cs fun x hx => ⟨0, (ev_cz 0 x.1).trans (by
  have hx : decide (List.length x.1.2.2.2.2 <= 4294967296) = true := hx
  simp only [hx, cond_true]
  unfold tstOk
  cases hA : tstOkA x.1
  · have hA' := hA
    unfold tstOkA at hA'
    cases h1 : askOk x.1.1
    · rfl
    · cases h2 : decOk x.1.2.2.1
      · rfl
      · cases h3 : List.all x.1.2.2.2.2 decOk
        · rfl
        · cases h4 : inq x.1.2.2.2.1 0 3
          · rfl
          · rw [h1, h2, h3, h4] at hA'
            have h5 : need x.1.2.2.2.1 < (List.length x.1.2.2.2.2 : Int) := Int.not_le.1 (of_decide_eq_false hA')
            simp only [cond_false, decide_eq_true h5]; rfl
  · have hp := Qfz hA
    unfold tstOkA at hA
    simp only [Bool.and_eq_true, decide_eq_true_eq] at hA
    obtain ⟨h1, h2, h3, h4, h5⟩ := hA
    simp only [h1, h2, h3, h4, decide_eq_false (Int.not_lt.2 h5), cond_true, cond_false, Bool.true_and]
    refine p_okB x.1 _ fun hs => ?_
    simp only [hp, cond_true]
    exact p_okB2 x.1)⟩
theorem s_b8 : C_b8 (fun _ => true) (fun x => (tstOk x.1, ())) := S_b8 s_az s_av s_at s_b2 s_b7 s_b3 fun x _ => ⟨List.length x.1.2.2.2.2 + 1, (ev_b8 _ x.1).trans (by
  have key : ∀ t : MTst, (bif (bif askOk t.1 then false else true) then (some (false, ())) else (bif (bif decOk t.2.2.1 then false else true) then (some (false, ())) else (bif (bif inq t.2.2.2.1 0 3 then false else true) then (some (false, ())) else (bif (decide (need t.2.2.2.1 < (t.2.2.2.2.length : Int))) then (some (false, ())) else
      (r_b8 (fun x => (askOk x.1, ())) (fun x => (decOk x.1, ())) (fun x => (inq x.1 x.2.1 x.2.2.1, ())) (fun x => (need x.1, ())) (fun x => (stateOf x.1, ())) (fun x => tsPre x.1) (fun x => (spcIn x.1 x.2.1, ())) (t, ()) (t.2.2.2.2.length + 1) pt0 (h0_b8 t ((0 : Nat) : Int))))))) = some (tstOk t, ()) := fun t => by
    unfold tstOk
    have hloop : askOk t.1 = true -> decOk t.2.2.1 = true -> inq t.2.2.2.1 0 3 = true -> (t.2.2.2.2.length : Int) <= need t.2.2.2.1 -> r_b8 (fun x => (askOk x.1, ())) (fun x => (decOk x.1, ())) (fun x => (inq x.1 x.2.1 x.2.2.1, ())) (fun x => (need x.1, ())) (fun x => (stateOf x.1, ())) (fun x => tsPre x.1) (fun x => (spcIn x.1 x.2.1, ())) (t, ()) (t.2.2.2.2.length + 1) pt0 (h0_b8 t ((0 : Nat) : Int)) = some (t.2.2.2.2.all decOk && tstOkB t, ()) := fun h1 h2 h4 h5 => by
      have h6 := Qm3 t.2.2.2.1
      by_cases h3 : t.2.2.2.2.all decOk = true
      · have hp : tsPre t = true := Qb6.2 ⟨h1, h2, h3, by omega⟩
        refine Qlt (α := MDec) t.2.2.2.2 decOk (tstOkB t) (fun k i => r_b8 (fun x => (askOk x.1, ())) (fun x => (decOk x.1, ())) (fun x => (inq x.1 x.2.1 x.2.2.1, ())) (fun x => (need x.1, ())) (fun x => (stateOf x.1, ())) (fun x => tsPre x.1) (fun x => (spcIn x.1 x.2.1, ())) (t, ()) k pt0 (h0_b8 t (i : Int))) (fun k => ?_) (fun k i y r hd hi => ?_)
        · rw [rd0_b8, Qab (Nat.le_refl _)]
          refine p_okB t _ fun hs => ?_
          simp only [hp, cond_true]
          exact p_okB2 t
        · rw [rd0_b8, Qac hi, Qad hi, Qaf (by omega), Qaa hd]
          simp only [cond_true, Qa1, Qck]
      · have h3 : t.2.2.2.2.all decOk = false := Bool.eq_false_iff.2 h3
        have := Qaq (σ := Unit) t.2.2.2.2 (fun k i _ => r_b8 (fun x => (askOk x.1, ())) (fun x => (decOk x.1, ())) (fun x => (inq x.1 x.2.1 x.2.2.1, ())) (fun x => (need x.1, ())) (fun x => (stateOf x.1, ())) (fun x => tsPre x.1) (fun x => (spcIn x.1 x.2.1, ())) (t, ()) k pt0 (h0_b8 t (i : Int))) (fun l i _ => (false, ())) (fun i _ => (t.2.2.2.2.drop i).all decOk = false) (fun k s hs => by
          rw [List.drop_length] at hs; cases hs) (fun k i y r s hd hi hs => by
          cases hy : decOk y
          · refine .inl ?_
            show r_b8 _ _ _ _ _ _ _ _ _ _ _ = _
            rw [rd0_b8, Qac hi, Qad hi, Qaf (by omega), Qaa hd]
            simp only [hy]; rfl
          · refine .inr ⟨(), ?_, ?_, rfl⟩
            · rw [hd, List.all_cons, hy] at hs
              rw [Qka hd]; exact hs
            · show r_b8 _ _ _ _ _ _ _ _ _ _ _ = _
              rw [rd0_b8, Qac hi, Qad hi, Qaf (by omega), Qaa hd]
              simp only [hy]; rfl) t.2.2.2.2.length 0 () (by omega) (by simpa using h3)
        rw [h3]
        exact this
    unfold tstOkA
    cases h1 : askOk t.1
    · rfl
    · cases h2 : decOk t.2.2.1
      · rfl
      · cases h4 : inq t.2.2.2.1 0 3
        · simp only [Bool.false_and, Bool.and_false]; rfl
        · by_cases h5 : (t.2.2.2.2.length : Int) <= need t.2.2.2.1
          · rw [decide_eq_true h5, decide_eq_false (by omega)]
            refine (hloop h1 h2 h4 h5).trans ?_
            simp only [Bool.true_and, Bool.and_true]
          · rw [decide_eq_false h5, decide_eq_true (by omega)]
            simp only [Bool.and_false, Bool.false_and]; rfl
  exact key x.1)⟩

end Go.Proofs.YtjmohfahchamaaaGreat

set_option linter.unusedVariables false
set_option linter.unusedSimpArgs false
namespace Go.Proofs.YtjmohfahchamaaaGreat
open Go.Vm

theorem p_szLen (n : Nat) (l : Int) (h1 : n <= 9223372036854775807) (h2 : 0 <= l) (h3 : l <= 1048576) : (bif (decide ((w64 (l - (n : Int))) < (0 : Int))) then (some ((-1 : Int), ())) else (some ((w64 (l - (n : Int))), ()))) = some (if l < (n : Int) then -1 else l - (n : Int), ()) := by
  rw [Qae (by omega) (by omega)]
  by_cases h : l < n
  · rw [if_pos h, decide_eq_true (by omega)]; rfl
  · rw [if_neg h, decide_eq_false (by omega)]; rfl
theorem p_szPass (n : Nat) (l : Int) (h : 0 <= l) : (bif decide ((if l < (n : Int) then -1 else l - (n : Int)) < (0 : Int)) then (some ((-1 : Int), ())) else (some ((if l < (n : Int) then -1 else l - (n : Int)), ()))) = some ((if l < (n : Int) then -1 else l - (n : Int)), ()) := by
  by_cases h1 : l < (n : Int)
  · rw [if_pos h1]; rfl
  · rw [if_neg h1, decide_eq_false (by omega)]; rfl
/-- What is left behind so many. -/
def szN (n : Nat) (l : Int) : Int := if l < (n : Int) then -1 else l - (n : Int)
theorem s_a4 : C_a4 (fun x => okLen (List.length x.1) && inq x.2.1 0 1048576) (fun x => (szN (List.length x.1) x.2.1, ())) := S_a4 fun x hx => ⟨0, (ev_a4 0 x.1 x.2.1).trans (by
  have h := Bool.and_eq_true_iff.1 hx
  have h2 := Qah.1 h.2
  exact p_szLen _ _ (Qaz.1 h.1) h2.1 h2.2)⟩
theorem s_a5 : C_a5 (fun x => okLen (List.length x.1.2.2.2.2) && inq x.2.1 0 1048576) (fun x => (szN (List.length x.1.2.2.2.2) x.2.1, ())) := S_a5 s_a4 fun x hx => ⟨0, (ev_a5 0 x.1 x.2.1).trans (by
  have hx : (okLen (List.length x.1.2.2.2.2) && inq x.2.1 0 1048576) = true := hx
  simp only [hx, cond_true]
  exact p_szPass _ _ (Qah.1 (Bool.and_eq_true_iff.1 hx).2).1)⟩
theorem Qpu {n : Nat} {l : Int} (h : l <= 1048576) (h2 : ¬ szN n l < 0) : n <= 1048576 := by
  unfold szN at h2; split at h2 <;> omega

theorem s_aj : C_aj (fun x => decide (List.length x.1 <= 4294967296)) (fun x => (x.1, ())) := S_aj s_ae fun x hx => ⟨List.length x.1 + 1, (ev_aj _ x.1).trans (by
  have hx : List.length x.1 <= 4294967296 := of_decide_eq_true hx
  rw [p_make hx]
  refine (Qcq (α := MDec) x.1 (fun y => y) (fun k i out => r_aj (fun x => (x.1, ())) (x.1, ()) k pt0 (h0_aj x.1 (i : Int) out)) (fun k out ho => ?_) (fun k i y r out hd hi ho => ?_) _ ?_).trans ?_
  · rw [rd0_aj, Qab (Nat.le_refl _)]; rfl
  · rw [rd0_aj, Qac hi, Qac (ho.symm ▸ hi), Qad hi, Qaf (by omega), Int.toNat_natCast, Qaa hd]; rfl
  · rw [List.length_replicate]; exact Int.toNat_natCast _
  · rw [List.map_id'])⟩
theorem s_ak : C_ak (fun x => decide (List.length x.1.2.2.2.2 <= 4294967296)) (fun x => (x.1, ())) := S_ak s_af s_ae s_aj fun x hx => ⟨0, (ev_ak 0 x.1).trans (by
  have hx : decide (List.length x.1.2.2.2.2 <= 4294967296) = true := hx
  rw [hx]; rfl)⟩
theorem s_fg : C_fg (fun x => decide (List.length x.1 <= 4294967296)) (fun x => (same x.1 x.2.1, ())) := S_fg s_fb fun x hx => ⟨List.length x.1 + 1, (ev_fg _ x.1 x.2.1).trans (p_eqS fun hl => by
  have hx : List.length x.1 <= 4294967296 := of_decide_eq_true hx
  refine Qcl (α := MDec) x.1 x.2.1 hl (fun k i => r_fg (fun x => (same x.1 x.2.1, ())) (x.1, x.2.1, ()) k pt0 (h0_fg x.1 x.2.1 (i : Int))) (fun k => ?_) (fun k i y z r r' hd hd' hi hi' => ?_)
  · rw [rd0_fg, Qab (Nat.le_refl _)]; rfl
  · rw [rd0_fg, Qac hi, Qac hi', Qad hi, Qaf (by omega), Qaa hd, Qaa hd', Qa1, Qck]; rfl)⟩
theorem s_fh : C_fh (fun x => decide (List.length x.1.2.2.2.2 <= 4294967296)) (fun x => (same x.1 x.2.1, ())) := S_fh s_fc s_fb s_fg fun x hx => ⟨0, (ev_fh 0 x.1 x.2.1).trans (by
  have hx : decide (List.length x.1.2.2.2.2 <= 4294967296) = true := hx
  simp only [hx, cond_true, Qa1, Qck, Qb9, Qca, Qcb, Qar, Bool.and_true]
  refine congrArg (fun b => some (b, ())) ?_
  rw [Qao, Qao, Qao, Qao])⟩

theorem s_d0 : C_d0 (fun _ => true) (fun x => (inq x.1 1 5, ())) := S_d0 s_iin fun x _ => ⟨0, ev_d0 0 x.1⟩
end Go.Proofs.YtjmohfahchamaaaGreat

set_option linter.unusedVariables false
set_option linter.unusedSimpArgs false
namespace Go.Proofs.YtjmohfahchamaaaGreat
open Go.Vm

theorem s_ej : C_ej (fun _ => true) (fun x => ((x.1, 0, (0, 0), 0, []), ())) := S_ej fun x _ => ⟨0, ev_ej 0 x.1⟩
theorem s_bu : C_bu (fun _ => true) (fun x => ((x.1, 0, (0, 0), 0, []), ())) := S_bu fun x _ => ⟨0, ev_bu 0 x.1⟩

theorem Qjs (a b : MAsk) : Sh.beq S_SpcTest a b = same a b := by
  show (decide (a.1 = b.1) && ((decide (a.2.1.1 = b.2.1.1) && decide (a.2.1.2 = b.2.1.2)) && ((decide (a.2.2.1.1 = b.2.2.1.1) && decide (a.2.2.1.2 = b.2.2.1.2)) && decide (a.2.2.2 = b.2.2.2)))) = _
  simp only [Qar, Qao]
end Go.Proofs.YtjmohfahchamaaaGreat

set_option linter.unusedVariables false
set_option linter.unusedSimpArgs false
namespace Go.Proofs.YtjmohfahchamaaaGreat
open Go.Vm

theorem s_bl : C_bl (fun x => smS x.1) (fun x => (x.1, ())) := S_bl fun x hx => ⟨List.length x.1 + 1, (ev_bl _ x.1).trans (by
  obtain ⟨h1, h2⟩ := Qbc.1 hx
  have h1 : List.length x.1 <= 4294967296 := h1
  refine (Qls (α := MSpc) x.1 (fun y => y) (fun k i out => r_bl (x.1, ()) k pt0 (h0_bl x.1 (i : Int) out)) (fun k out => ?_) (fun k i y r out hd hi ho => ?_)).trans ?_
  · rw [rd0_bl, Qab (Nat.le_refl _)]; rfl
  · rw [rd0_bl, Qac hi, Qad hi, Qaf (by omega), Qaa hd, Qau (by have := h2 y (Qas hd); show 0 + y.1.length <= _; omega), Qau (by show out.length + 1 <= _; omega)]
    rfl
  · rw [List.map_id'])⟩
theorem s_e2 : C_e2 (fun x => smA x.1) (fun x => (x.1, ())) := S_e2 fun x hx => ⟨0, (ev_e2 0 x.1).trans (by
  have hx : List.length x.1 <= 4294967296 := of_decide_eq_true hx
  have key : ∀ l : List MAsk, List.length l <= 4294967296 -> (bif (List.isEmpty l) then (agree (some (([] : List MAsk), ())) (bif (fitL [] l) then (some ((List.append [] l), ())) else none)) else (bif (fitL [] l) then (some ((List.append [] l), ())) else none)) = some (l, ()) := by
    intro l hl
    rw [Qau (by show 0 + l.length <= _; omega)]
    cases l with
    | nil => unfold agree; exact if_pos rfl
    | cons a r => rfl
  exact key x.1 hx)⟩
theorem s_e3 : C_e3 (fun x => smS x.1) (fun x => (x.1, ())) := S_e3 s_e2 fun x hx => ⟨List.length x.1 + 1, (ev_e3 _ x.1).trans (by
  obtain ⟨h1, h2⟩ := Qbc.1 hx
  have h1 : List.length x.1 <= 4294967296 := h1
  refine (Qls (α := MSpc) x.1 (fun y => y) (fun k i out => r_e3 (fun x => (x.1, ())) (fun x => smA x.1) (x.1, ()) k pt0 (h0_e3 x.1 (List.length x.1 : Int) (i : Int) out)) (fun k out => ?_) (fun k i y r out hd hi ho => ?_)).trans ?_
  · rw [rd0_e3, Qab (Nat.le_refl _)]; rfl
  · have h3 : smA y.1 = true := decide_eq_true (h2 y (Qas hd))
    rw [rd0_e3, Qac hi, Qad hi, Qaf (by omega), Qaa hd, Qau (by show out.length + 1 <= _; omega)]
    simp only [h3, cond_true]
    rfl
  · rw [List.map_id'])⟩

theorem s_bq : C_bq (fun x => smS x.1 && smA x.2.1) (fun x => ((spcAdd x.1 x.2.1).1, (spcAdd x.1 x.2.1).2, ())) := S_bq s_bl s_b1 s_b0 fun x hx => ⟨0, (ev_bq 0 x.1 x.2.1).trans (by
  have hx : (smS x.1 && smA x.2.1) = true := hx
  obtain ⟨hx1, hx2⟩ := (Bool.and_eq_true _ _).mp hx
  have h1 : List.length x.1 <= 4294967296 := (Qbc.1 hx1).1
  have key : ∀ (l : List MSpc) (t : List MAsk), l.length <= 4294967296 -> smA t = true -> (bif (bif spcsOk l then false else true) then (some (l, (false, ()))) else (bif (bif testsOk t then false else true) then (some (l, (false, ()))) else (bif (decide ((List.length l : Int) = (6 : Int))) then (some (l, (false, ()))) else (bif (fitL [] t) then (bif (fitL l [((List.append [] t), (1 : Int))]) then (some ((List.append l [((List.append [] t), (1 : Int))]), (true, ()))) else none) else none)))) = some ((spcAdd l t).1, (spcAdd l t).2, ()) := by
    intro l t hl ht
    have ht : t.length <= 4294967296 := of_decide_eq_true ht
    unfold spcAdd
    cases hs : spcsOk l
    · rfl
    · have h6 : l.length <= 6 := by unfold spcsOk at hs; simp at hs; exact hs.1
      rw [Qau (by show 0 + t.length <= _; omega), Qau (by show l.length + 1 <= _; omega)]
      cases testsOk t
      · rfl
      · by_cases h : l.length = 6
        · rw [decide_eq_true (show (List.length l : Int) = 6 by omega), decide_eq_true h]; rfl
        · rw [decide_eq_false (show ¬ (List.length l : Int) = 6 by omega), decide_eq_false h]; rfl
  simp only [hx1, cond_true]
  exact key x.1 x.2.1 h1 hx2)⟩
theorem s_ed : C_ed (fun x => smS x.1 && smA x.2.1) (fun x => ((spcAdd x.1 x.2.1).1, (spcAdd x.1 x.2.1).2, ())) := S_ed s_e3 s_cm s_cl s_e2 fun x hx => ⟨0, (ev_ed 0 x.1 x.2.1).trans (by
  have hx : (smS x.1 && smA x.2.1) = true := hx
  obtain ⟨hx1, hx2⟩ := (Bool.and_eq_true _ _).mp hx
  have h1 : List.length x.1 <= 4294967296 := (Qbc.1 hx1).1
  have h2 : decide (List.length x.2.1 <= 4294967296) = true := hx2
  have key : ∀ (l : List MSpc) (t : List MAsk), l.length <= 4294967296 -> (bif (bif spcsOk l then false else true) then (some (l, (false, ()))) else (bif (bif testsOk t then false else true) then (some (l, (false, ()))) else (bif (decide ((List.length l : Int) = (6 : Int))) then (some (l, (false, ()))) else (bif (fitL l [(t, (1 : Int))]) then (some ((List.append l [(t, (1 : Int))]), (true, ()))) else none)))) = some ((spcAdd l t).1, (spcAdd l t).2, ()) := by
    intro l t hl
    unfold spcAdd
    cases hs : spcsOk l
    · rfl
    · have h6 : l.length <= 6 := by unfold spcsOk at hs; simp at hs; exact hs.1
      rw [Qau (by show l.length + 1 <= _; omega)]
      cases testsOk t
      · rfl
      · by_cases h : l.length = 6
        · rw [decide_eq_true (show (List.length l : Int) = 6 by omega), decide_eq_true h]; rfl
        · rw [decide_eq_false (show ¬ (List.length l : Int) = 6 by omega), decide_eq_false h]; rfl
  simp only [hx1, hx2, h2, cond_true]
  exact key x.1 x.2.1 h1)⟩
theorem Ql8 (l : List MSpc) (k : Int) : rdL (e := S_SpcSpec) l k = l.getD k.toNat ([], 0) := rfl
theorem p_br (l : List MSpc) (n : Int) (hl : l.length <= 4294967296) (h1 : 0 <= n) (h2 : n < l.length) : r_br (fun x => (x.1, ())) (fun x => smS x.1) (fun x => (spcsOk x.1, ())) (fun x => (inq x.1 x.2.1 x.2.2.1, ())) (l, n, ()) (l.length + 1) pt2 (h0_br l n ((0 : Nat) : Int) l) = some ((l.map retire).set n.toNat ((l.getD n.toNat ([], 0)).1, 2), true, ()) := by
  have hin : ∀ out : List MSpc, out.length = l.length -> (bif decide ((0 : Int) <= n) then decide (n < (List.length out : Int)) else false) = true := fun out ho => by
    rw [decide_eq_true h1]; exact decide_eq_true (by omega)
  refine (Qql (α := MSpc) l retire (fun out => some (out.set n.toNat ((out.getD n.toNat ([], 0)).1, 2), true, ())) (fun k i out => r_br (fun x => (x.1, ())) (fun x => smS x.1) (fun x => (spcsOk x.1, ())) (fun x => (inq x.1 x.2.1 x.2.2.1, ())) (l, n, ()) k pt2 (h0_br l n (i : Int) out)) (fun k out ho => ?_) (fun k i y r out hd hi ho => ?_)).trans ?_
  · rw [rd0_br, Qab (by omega), hin out ho]; rfl
  · have hi' : i < out.length := by omega
    rw [rd0_br, Qac hi', Qad hi', Qaf (by omega), Qaa hd, Int.toNat_natCast]
    unfold retire
    cases h : decide (y.2 = 2)
    · have : out.set i y = out := Qe2 (by
        have := congrArg List.head? hd
        rwa [List.head?_drop] at this)
      simp only [cond_true, cond_false, this]
    · simp only [cond_true]
  · simp only [Qhk]
theorem s_br : C_br (fun x => smS x.1) (fun x => ((spcRaise x.1 x.2.1).1, (spcRaise x.1 x.2.1).2, ())) := S_br s_bl s_b1 s_at fun x hx => ⟨List.length x.1 + 1, (ev_br _ x.1 x.2.1).trans (by
  have hx : smS x.1 = true := hx
  have h1 : List.length x.1 <= 4294967296 := (Qbc.1 hx).1
  have key : ∀ (l : List MSpc) (n : Int) (Z : Option (List MSpc × Bool × Unit)), l.length <= 4294967296 -> (0 <= n -> n < l.length -> Z = some ((l.map retire).set n.toNat ((l.getD n.toNat ([], 0)).1, 2), true, ())) -> (bif (bif spcsOk l then false else true) then (some (l, (false, ()))) else (bif (bif inq n 0 (w64 ((List.length l : Int) - (1 : Int))) then false else true) then (some (l, (false, ()))) else (bif (bif (decide ((0 : Int) <= n)) then (decide (n < (List.length l : Int))) else false) then (bif (bif (decide ((rdL (e := S_SpcSpec) l n).2 = (1 : Int))) then false else true) then (some (l, (false, ()))) else Z) else none))) = some ((spcRaise l n).1, (spcRaise l n).2, ()) := by
    intro l n Z hl hZ
    unfold spcRaise
    cases hs : spcsOk l
    · rfl
    · rw [Qae (by omega) (by omega), Ql8]
      cases hi : inq n 0 ((l.length : Int) - 1)
      · rfl
      · obtain ⟨h1, h2⟩ := Qah.1 hi
        rw [decide_eq_true h1, decide_eq_true (show n < (l.length : Int) by omega), hZ h1 (by omega)]
        cases decide ((l.getD n.toNat ([], 0)).2 = 1) <;> rfl
  simp only [hx, cond_true]
  exact key x.1 x.2.1 _ h1 fun h2 h3 => p_br x.1 x.2.1 h1 h2 h3)⟩

theorem s_ef : C_ef (fun _ => true) (fun x => (decide (x.1.2 = 2), ())) := S_ef fun x _ => ⟨0, ev_ef 0 x.1⟩
theorem s_eg : C_eg (fun x => decide (List.length x.1 <= 4294967296)) (fun x => (spcNow x.1, ())) := S_eg s_ef fun x hx => ⟨List.length x.1 + 1, (ev_eg _ x.1 x.2.1).trans (by
  have hx : List.length x.1 <= 4294967296 := of_decide_eq_true hx
  refine Qbg (α := MSpc) x.1 (fun t => decide (t.2 = 2)) (fun k i => r_eg (fun x => (decide (x.1.2 = 2), ())) (x.1, x.2.1, ()) k pt1 (h0_eg x.1 x.2.1 (List.length x.1 : Int) (i : Int))) (fun k => ?_) (fun k i y r hd hi => ?_)
  · rw [rd0_eg, Qab (Nat.le_refl _)]; rfl
  · rw [rd0_eg, Qac hi, Qad hi, Qaf (by omega), Qaa hd]; rfl)⟩
theorem s_eh : C_eh (fun x => decide (List.length x.1 <= 4294967296)) (fun x => (spcNow x.1, ())) := S_eh s_eg fun x hx => ⟨0, (ev_eh 0 x.1).trans (by
  have hx : decide (List.length x.1 <= 4294967296) = true := hx
  simp only [hx, cond_true])⟩
theorem s_ei : C_ei (fun x => smS x.1) (fun x => ((spcRaise x.1 x.2.1).1, (spcRaise x.1 x.2.1).2, ())) := S_ei s_e3 s_cm s_iin s_eh fun x hx => ⟨0, (ev_ei 0 x.1 x.2.1).trans (by
  have hx : smS x.1 = true := hx
  have h1 : List.length x.1 <= 4294967296 := (Qbc.1 hx).1
  have h2 : decide (List.length x.1 <= 4294967296) = true := decide_eq_true h1
  have key : ∀ (l : List MSpc) (n : Int), l.length <= 4294967296 -> (bif (bif spcsOk l then false else true) then (some (l, (false, ()))) else (bif (bif inq n 0 (w64 ((List.length l : Int) - (1 : Int))) then false else true) then (some (l, (false, ()))) else (bif (bif (decide ((0 : Int) <= n)) then (decide (n < (List.length l : Int))) else false) then (bif (bif (decide ((rdL (e := S_SpcSpec) l n).2 = (1 : Int))) then false else true) then (some (l, (false, ()))) else (bif (decide ((0 : Int) <= spcNow l)) then (bif (bif (decide ((0 : Int) <= spcNow l)) then (decide (spcNow l < (List.length l : Int))) else false) then (bif (bif (decide ((0 : Int) <= n)) then (decide (n < (List.length (List.set l (Int.toNat (spcNow l)) ((rdL (e := S_SpcSpec) l (spcNow l)).1, (3 : Int))) : Int))) else false) then (some ((List.set (List.set l (Int.toNat (spcNow l)) ((rdL (e := S_SpcSpec) l (spcNow l)).1, (3 : Int))) (Int.toNat n) ((rdL (e := S_SpcSpec) (List.set l (Int.toNat (spcNow l)) ((rdL (e := S_SpcSpec) l (spcNow l)).1, (3 : Int))) n).1, (2 : Int))), (true, ()))) else none) else none) else (bif (bif (decide ((0 : Int) <= n)) then (decide (n < (List.length l : Int))) else false) then (some ((List.set l (Int.toNat n) ((rdL (e := S_SpcSpec) l n).1, (2 : Int))), (true, ()))) else none))) else none))) = some ((spcRaise l n).1, (spcRaise l n).2, ()) := by
    intro l n hl
    unfold spcRaise
    cases hs : spcsOk l
    · rfl
    · rw [Qae (by omega) (by omega), Ql8]
      cases hi : inq n 0 ((l.length : Int) - 1)
      · rfl
      · obtain ⟨h1, h2⟩ := Qah.1 hi
        have hf : force l <= 1 := by unfold spcsOk at hs; simp at hs; exact hs.2.2
        have hr := Qgs l hf
        have e0 : ((l.map retire).getD n.toNat ([], 0)).1 = (l.getD n.toNat ([], 0)).1 := Qhk l n.toNat
        rw [decide_eq_true h1, decide_eq_true (show n < (l.length : Int) by omega)]
        cases decide ((l.getD n.toNat ([], 0)).2 = 1)
        · rfl
        · rcases Qff (fun s : MSpc => decide (s.2 = 2)) l with hn | ⟨hn1, hn2⟩
          · have hn : spcNow l = -1 := hn
            rw [hn] at hr ⊢
            rw [show l.map retire = l from hr]
            rfl
          · have hn1 : 0 <= spcNow l := hn1
            have hn2 : spcNow l < l.length := hn2
            rw [if_neg (by omega)] at hr
            simp only [Ql8, List.length_set]
            rw [<- hr, e0, decide_eq_true hn1, decide_eq_true hn2, decide_eq_true (show n < (l.length : Int) by omega)]
            rfl
  simp only [hx, h2, cond_true]
  exact key x.1 x.2.1 h1)⟩

end Go.Proofs.YtjmohfahchamaaaGreat

set_option linter.unusedVariables false
set_option linter.unusedSimpArgs false
namespace Go.Proofs.YtjmohfahchamaaaGreat
open Go.Vm
theorem Qjt {S : Sh} {l : List S.den} {i : Nat} {x : S.den} (h : i < l.length) : rdL (e := S) (l.set i x) (i : Int) = x := by
  unfold rdL
  rw [Int.toNat_natCast, List.getD_eq_getElem?_getD, List.getElem?_set_self h]; rfl
theorem s_fr : C_fr (fun x => mkPre (szL (fun _ => 6)) x.1 x.2.1) (fun x => ((markL mkAsk x.1 x.2.1).2, ((markL mkAsk x.1 x.2.1).1, ()))) := S_fr fun x hx => ⟨List.length x.1 + 1, (ev_fr _ x.1 x.2.1).trans (by
  obtain ⟨h1, h2⟩ := Qai.1 hx
  have hl : List.length x.1 <= szL (fun _ => 6) x.1 := Qbd (fun _ => by decide) x.1
  refine Qcd (α := MAsk) (mk := mkAsk) (sz := fun _ => 6) Qct.go x.1 4294967296 (fun c out => some (c, (out, ()))) (fun k i c out => r_fr (x.1, x.2.1, ()) k pt1 (h0_fr x.1 x.2.1 c (i : Int) out)) (fun k c out ho => ?_) (fun k i y r c out hd hi ho h0 hB => ?_) x.2.1 h1 h2
  · rw [rd0_fr]
    try simp only [lt_eq]
    rw [Qab (show out.length <= List.length x.1 by omega)]; rfl
  · have hi' : i < out.length := by omega
    have hB : c + 6 <= 4294967296 := hB
    rw [rd0_fr]
    have hr : ∀ y : MAsk, rdL (e := S_SpcTest) (out.set i y) (i : Int) = y := fun y => Qjt hi'
    have h0i : decide ((0 : Int) <= (i : Int)) = true := decide_eq_true (by omega)
    simp only [lt_eq, Int.toNat_natCast, List.length_set, hr, List.set_set, h0i, Qad hi', cond_true, Qaf (show i <= 4294967296 by omega)]
    rw [Qae (x := c + 1) (by omega) (by omega), Qae (x := c + 1 + 1) (by omega) (by omega), Qae (x := c + 1 + 1 + 1) (by omega) (by omega), Qae (x := c + 1 + 1 + 1 + 1) (by omega) (by omega), Qae (x := c + 1 + 1 + 1 + 1 + 1) (by omega) (by omega), Qae (x := c + 1 + 1 + 1 + 1 + 1 + 1) (by omega) (by omega)]
    rfl)⟩
theorem s_g1 : C_g1 (fun x => mkPre (szL (fun _ => 6)) x.1 x.2.1) (fun x => (hdOf (markL mkAsk) x.1 x.2.1, ())) := S_g1 fun x hx => ⟨List.length x.1 + 1, (ev_g1 _ x.1 x.2.1).trans (by
  obtain ⟨h1, h2⟩ := Qai.1 hx
  have hl : List.length x.1 <= szL (fun _ => 6) x.1 := Qbd (fun _ => by decide) x.1
  refine Qce (α := MAsk) (mk := mkAsk) (sz := fun _ => 6) Qct x.1 4294967296 (fun k i c => r_g1 (x.1, x.2.1, ()) k pt1 (h0_g1 x.1 x.2.1 c (i : Int))) (fun k c => ?_) (fun k i y r c hd hi h0 hB => ?_) x.2.1 h1 h2
  · rw [rd0_g1]
    try simp only [lt_eq]
    rw [Qab (Nat.le_refl _)]; rfl
  · have hB : c + 6 <= 4294967296 := hB
    rw [rd0_g1]
    have h0i : decide ((0 : Int) <= (i : Int)) = true := decide_eq_true (by omega)
    simp only [lt_eq, h0i, Qad hi, cond_true, Qaf (show i <= 4294967296 by omega), Qaa hd]
    rw [Qae (x := c + 1) (by omega) (by omega), Qae (x := c + 1 + 1) (by omega) (by omega), Qae (x := c + 1 + 1 + 1) (by omega) (by omega), Qae (x := c + 1 + 1 + 1 + 1) (by omega) (by omega), Qae (x := c + 1 + 1 + 1 + 1 + 1) (by omega) (by omega), Qae (x := c + 1 + 1 + 1 + 1 + 1 + 1) (by omega) (by omega)]
    unfold mkAsk
    simp only [Qcm, Qar]
    cases same y.1 c <;> cases same y.2.1.1 (c + 1) <;> cases same y.2.1.2 (c + 1 + 1) <;> cases same y.2.2.1.1 (c + 1 + 1 + 1) <;> cases same y.2.2.1.2 (c + 1 + 1 + 1 + 1) <;> cases same y.2.2.2 (c + 1 + 1 + 1 + 1 + 1) <;> rfl)⟩
theorem s_ft : C_ft (fun x => mkPre (szL (fun _ => 2)) x.1 x.2.1) (fun x => ((markL mkDec x.1 x.2.1).2, ((markL mkDec x.1 x.2.1).1, ()))) := S_ft fun x hx => ⟨List.length x.1 + 1, (ev_ft _ x.1 x.2.1).trans (by
  obtain ⟨h1, h2⟩ := Qai.1 hx
  have hl : List.length x.1 <= szL (fun _ => 2) x.1 := Qbd (fun _ => by decide) x.1
  refine Qcd (α := MDec) (mk := mkDec) (sz := fun _ => 2) Qdu.go x.1 4294967296 (fun c out => some (c, (out, ()))) (fun k i c out => r_ft (x.1, x.2.1, ()) k pt1 (h0_ft x.1 x.2.1 c (i : Int) out)) (fun k c out ho => ?_) (fun k i y r c out hd hi ho h0 hB => ?_) x.2.1 h1 h2
  · rw [rd0_ft]
    try simp only [lt_eq]
    rw [Qab (show out.length <= List.length x.1 by omega)]; rfl
  · have hi' : i < out.length := by omega
    have hB : c + 2 <= 4294967296 := hB
    rw [rd0_ft]
    have hr : ∀ y : MDec, rdL (e := S_DecDec) (out.set i y) (i : Int) = y := fun y => Qjt hi'
    have h0i : decide ((0 : Int) <= (i : Int)) = true := decide_eq_true (by omega)
    simp only [lt_eq, Int.toNat_natCast, List.length_set, hr, List.set_set, h0i, Qad hi', cond_true, Qaf (show i <= 4294967296 by omega)]
    rw [Qae (x := c + 1) (by omega) (by omega), Qae (x := c + 1 + 1) (by omega) (by omega)]
    rfl)⟩
theorem s_g3 : C_g3 (fun x => mkPre (szL (fun _ => 2)) x.1 x.2.1) (fun x => (hdOf (markL mkDec) x.1 x.2.1, ())) := S_g3 fun x hx => ⟨List.length x.1 + 1, (ev_g3 _ x.1 x.2.1).trans (by
  obtain ⟨h1, h2⟩ := Qai.1 hx
  have hl : List.length x.1 <= szL (fun _ => 2) x.1 := Qbd (fun _ => by decide) x.1
  refine Qce (α := MDec) (mk := mkDec) (sz := fun _ => 2) Qdu x.1 4294967296 (fun k i c => r_g3 (x.1, x.2.1, ()) k pt1 (h0_g3 x.1 x.2.1 c (i : Int))) (fun k c => ?_) (fun k i y r c hd hi h0 hB => ?_) x.2.1 h1 h2
  · rw [rd0_g3]
    try simp only [lt_eq]
    rw [Qab (Nat.le_refl _)]; rfl
  · have hB : c + 2 <= 4294967296 := hB
    rw [rd0_g3]
    have h0i : decide ((0 : Int) <= (i : Int)) = true := decide_eq_true (by omega)
    simp only [lt_eq, h0i, Qad hi, cond_true, Qaf (show i <= 4294967296 by omega), Qaa hd]
    rw [Qae (x := c + 1) (by omega) (by omega), Qae (x := c + 1 + 1) (by omega) (by omega)]
    unfold mkDec
    simp only [Qcm, Qar]
    cases same y.1 c <;> cases same y.2 (c + 1) <;> rfl)⟩
theorem s_fs : C_fs (fun x => mkPre (szL szS) x.1 x.2.1) (fun x => ((markL mkSpc x.1 x.2.1).2, ((markL mkSpc x.1 x.2.1).1, ()))) := S_fs s_fr fun x hx => ⟨List.length x.1 + 1, (ev_fs _ x.1 x.2.1).trans (by
  obtain ⟨h1, h2⟩ := Qai.1 hx
  have hl : List.length x.1 <= szL szS x.1 := Qbd Qm4 x.1
  refine Qcd (α := MSpc) (mk := mkSpc) (sz := szS) Qda.go x.1 4294967296 (fun c out => some (c, (out, ()))) (fun k i c out => r_fs (fun x => ((markL mkAsk x.1 x.2.1).2, ((markL mkAsk x.1 x.2.1).1, ()))) (fun x => mkPre (szL (fun _ => 6)) x.1 x.2.1) (x.1, x.2.1, ()) k pt1 (h0_fs x.1 x.2.1 c (i : Int) out)) (fun k c out ho => ?_) (fun k i y r c out hd hi ho h0 hB => ?_) x.2.1 h1 h2
  · rw [rd0_fs, Qab (show out.length <= List.length x.1 by omega)]; rfl
  · have hi' : i < out.length := by omega
    have hB : c + ((szL (fun _ => 6) y.1 + 1 : Nat) : Int) <= 4294967296 := hB
    have hg := Qct.list.go y.1 c
    rw [rd0_fs]
    have hr : ∀ y : MSpc, rdL (e := S_SpcSpec) (out.set i y) (i : Int) = y := fun y => Qjt hi'
    have h0i : decide ((0 : Int) <= (i : Int)) = true := decide_eq_true (by omega)
    have hp : mkPre (szL (fun _ => 6)) y.1 c = true := Qai.2 ⟨h0, by omega⟩
    simp only [Qaa (S := S_SpcSpec) hd, hp, cl, Int.toNat_natCast, List.length_set, hr, List.set_set, h0i, Qad hi', cond_true, Qaf (show i <= 4294967296 by omega)]
    rw [Qae (x := (markL mkAsk y.1 c).2 + 1) (by omega) (by omega)]
    rfl)⟩
theorem s_g2 : C_g2 (fun x => mkPre (szL szS) x.1 x.2.1) (fun x => (hdOf (markL mkSpc) x.1 x.2.1, ())) := S_g2 s_g1 fun x hx => ⟨List.length x.1 + 1, (ev_g2 _ x.1 x.2.1).trans (by
  obtain ⟨h1, h2⟩ := Qai.1 hx
  have hl : List.length x.1 <= szL szS x.1 := Qbd Qm4 x.1
  refine Qce (α := MSpc) (mk := mkSpc) (sz := szS) Qda x.1 4294967296 (fun k i c => r_g2 (fun x => (hdOf (markL mkAsk) x.1 x.2.1, ())) (fun x => mkPre (szL (fun _ => 6)) x.1 x.2.1) (x.1, x.2.1, ()) k pt1 (h0_g2 x.1 x.2.1 c (i : Int))) (fun k c => ?_) (fun k i y r c hd hi h0 hB => ?_) x.2.1 h1 h2
  · rw [rd0_g2, Qab (Nat.le_refl _)]; rfl
  · have hB : c + ((szL (fun _ => 6) y.1 + 1 : Nat) : Int) <= 4294967296 := hB
    have hg := Qct.list.go y.1 c
    have hp : mkPre (szL (fun _ => 6)) y.1 c = true := Qai.2 ⟨h0, by omega⟩
    rw [rd0_g2]
    have h0i : decide ((0 : Int) <= (i : Int)) = true := decide_eq_true (by omega)
    simp only [h0i, Qad hi, cond_true, Qaf (show i <= 4294967296 by omega), Qaa (S := S_SpcSpec) hd, hp, cl]
    unfold mkSpc
    simp only [Qcm, Qar]
    rcases Qct.list.hd (x := y.1) h0 with ⟨g1, g2, g3⟩ | ⟨g1, g2, g3⟩
    · rw [g2, g3]; rfl
    · have e : hdOf (markL mkAsk) y.1 c = (markL mkAsk y.1 c).2 := by rw [g2, hg]
      rw [g3, decide_eq_false (show ¬ hdOf (markL mkAsk) y.1 c < 0 by omega), e, Qae (x := (markL mkAsk y.1 c).2 + 1) (by omega) (by omega)]
      cases same y.2 (markL mkAsk y.1 c).2 <;> rfl)⟩

end Go.Proofs.YtjmohfahchamaaaGreat

set_option linter.unusedVariables false
set_option linter.unusedSimpArgs false
namespace Go.Proofs.YtjmohfahchamaaaGreat
open Go.Vm
def smT (t : MTst) : Bool := decide (t.2.2.2.2.length <= 4294967296)
theorem p_clone {α : Type} (l : List α) (hl : l.length <= 4294967296) : (bif (List.isEmpty l) then (agree (some (([] : List α), ())) (bif (fitL [] l) then (some ((List.append [] l), ())) else none)) else (bif (fitL [] l) then (some ((List.append [] l), ())) else none)) = some (l, ()) := by
  rw [Qau (by show 0 + l.length <= _; omega)]
  cases l with
  | nil => unfold agree; exact if_pos rfl
  | cons a r => rfl
theorem p_turn {β : Type} (a b c : Bool) (A B : β) : (bif (bif a then false else true) then B else (bif (bif b then false else true) then B else (bif (bif c then false else true) then B else A))) = bif a && (b && c) then A else B := by
  cases a <;> cases b <;> cases c <;> rfl
theorem s_e4 : C_e4 (fun x => decide (List.length x.1 <= 4294967296)) (fun x => (x.1, ())) := S_e4 fun x hx => ⟨0, (ev_e4 0 x.1).trans (p_clone (α := MDec) x.1 (of_decide_eq_true hx))⟩
theorem s_e5 : C_e5 (fun x => smT x.1) (fun x => (x.1, ())) := S_e5 s_e4 fun x hx => ⟨0, (ev_e5 0 x.1).trans (cl_eq hx)⟩
theorem s_bm : C_bm (fun x => smT x.1) (fun x => (x.1, ())) := S_bm fun x hx => ⟨0, (ev_bm 0 x.1).trans (by
  rw [Qau (by have : List.length x.1.2.2.2.2 <= 4294967296 := of_decide_eq_true hx; show 0 + List.length x.1.2.2.2.2 <= _; omega)]; rfl)⟩
theorem s_eo : C_eo (fun _ => true) (fun x => (((x.1.1, x.1.2.1, x.2.1, x.1.2.2.2) : MTst), ())) := S_eo fun x _ => ⟨0, ev_eo 0 x.1 x.2.1⟩
theorem s_er : C_er (fun _ => true) (fun x => (((x.1.1, x.1.2.1, x.1.2.2.1, x.2.1, x.1.2.2.2.2) : MTst), ())) := S_er fun x _ => ⟨0, ev_er 0 x.1 x.2.1⟩
theorem s_eu : C_eu (fun x => decide (List.length x.1.2.2.2.2 + 1 <= 4294967296)) (fun x => (((x.1.1, x.1.2.1, x.1.2.2.1, x.1.2.2.2.1, x.1.2.2.2.2 ++ [x.2.1]) : MTst), ())) := S_eu fun x hx => ⟨0, (ev_eu 0 x.1 x.2.1).trans (by rw [Qau (of_decide_eq_true hx)]; rfl)⟩
theorem Qpv {t : MTst} (h : tstOk t = true) : t.2.2.2.2.length <= 2 := (Qb6.1 (Qfz (Qbt.1 h).1)).2.2.2
theorem s_ep : C_ep (fun x => smT x.1 && (decide (x.2.1 = 0) && (x.2.2.1 == decOk x.2.2.2.1.1))) (fun x => ((tstPut x.1 x.2.2.2.1.1).1, (tstPut x.1 x.2.2.2.1.1).2, ())) := S_ep s_e5 s_cz s_eo s_cy fun x hx => ⟨0, (ev_ep 0 x.1 x.2.1 x.2.2.1 x.2.2.2.1).trans (by
  simp only [Bool.and_eq_true, decide_eq_true_eq, beq_iff_eq] at hx
  obtain ⟨t, st, may, ⟨v, u⟩, u2⟩ := x
  obtain ⟨hx, h4, h5⟩ := hx
  change MTst at t
  change MDec at v
  change st = (0 : Int) at h4
  change may = decOk v at h5
  subst h4 h5
  have hx : smT t = true := hx
  have hx' : decide (List.length t.2.2.2.2 <= 4294967296) = true := hx
  show cl (smT t) (t, ()) _ = some ((tstPut t v).1, (tstPut t v).2, ())
  simp only [cl, hx, hx', cond_true]
  cases hc : (tstOk t && (decide (t.2.1 = (0 : Int)) && decOk v))
  · have e : tstPut t v = (t, false) := by unfold tstPut; rw [hc]; rfl
    rw [e]
    have := p_turn (tstOk t) (decide (t.2.1 = (0 : Int))) (decOk v) (none : Option (MTst × Bool × Unit)) (some (t, false, ()))
    rw [hc] at this
    cases h1 : tstOk t
    · rfl
    · cases h2 : decide (t.2.1 = (0 : Int))
      · rfl
      · cases h3 : decOk v
        · rfl
        · rw [h1, h2, h3] at hc; cases hc
  · have e : tstPut t v = (mkT t.1 v t.2.2.2.1 t.2.2.2.2, true) := by unfold tstPut; rw [hc]; rfl
    rw [e]
    simp only [Bool.and_eq_true, decide_eq_true_eq] at hc
    obtain ⟨h1, h2, h3⟩ := hc
    have hp : tsPre ((t.1, t.2.1, v, t.2.2.2) : MTst) = true := Qen (Qlz h1 h2 h3)
    simp only [h1, decide_eq_true h2, h3, hp, cond_true, cond_false]
    rfl)⟩
theorem s_eq : C_eq (fun x => smT x.1) (fun x => ((tstPut x.1 x.2.1).1, (tstPut x.1 x.2.1).2, ())) := S_eq s_ce s_ep fun x hx => ⟨0, (ev_eq 0 x.1 x.2.1).trans (cl_eq (by
  have hx : smT x.1 = true := hx
  show (smT x.1 && (decide ((0 : Int) = 0) && (decOk x.2.1 == decOk x.2.1))) = true
  rw [hx, beq_self_eq_true]; rfl))⟩
theorem s_bx : C_bx (fun x => smT x.1) (fun x => ((tstPut x.1 x.2.1).1, (tstPut x.1 x.2.1).2, ())) := S_bx s_bm s_b8 s_av s_b7 fun x hx => ⟨0, (ev_bx 0 x.1 x.2.1).trans (by
  obtain ⟨t, v, u⟩ := x
  change MTst at t
  change MDec at v
  have hx : smT t = true := hx
  show cl (smT t) (t, ()) _ = some ((tstPut t v).1, (tstPut t v).2, ())
  simp only [cl, hx, cond_true]
  cases hc : (tstOk t && (decide (t.2.1 = (0 : Int)) && decOk v))
  · have e : tstPut t v = (t, false) := by unfold tstPut; rw [hc]; rfl
    rw [e]
    cases h1 : tstOk t
    · rfl
    · cases h2 : decide (t.2.1 = (0 : Int))
      · cases decOk v <;> rfl
      · cases h3 : decOk v
        · rfl
        · rw [h1, h2, h3] at hc; cases hc
  · have e : tstPut t v = (mkT t.1 v t.2.2.2.1 t.2.2.2.2, true) := by unfold tstPut; rw [hc]; rfl
    rw [e]
    simp only [Bool.and_eq_true, decide_eq_true_eq] at hc
    obtain ⟨h1, h2, h3⟩ := hc
    have hp : tsPre ((t.1, t.2.1, v, t.2.2.2) : MTst) = true := Qen (Qlz h1 h2 h3)
    simp only [h1, decide_eq_true h2, h3, hp, cond_true, cond_false]
    rfl)⟩
theorem s_es : C_es (fun x => smT x.1 && (decide (x.2.1 = 1) && (x.2.2.1 == inq x.2.2.2.1.1 1 3))) (fun x => ((tstCause x.1 x.2.2.2.1.1).1, (tstCause x.1 x.2.2.2.1.1).2, ())) := S_es s_e5 s_cz s_er s_cy fun x hx => ⟨0, (ev_es 0 x.1 x.2.1 x.2.2.1 x.2.2.2.1).trans (by
  simp only [Bool.and_eq_true, decide_eq_true_eq, beq_iff_eq] at hx
  obtain ⟨t, st, may, ⟨v, u⟩, u2⟩ := x
  obtain ⟨hx, h4, h5⟩ := hx
  change MTst at t
  change Int at v
  change st = (1 : Int) at h4
  change may = inq v 1 3 at h5
  subst h4 h5
  have hx : smT t = true := hx
  have hx' : decide (List.length t.2.2.2.2 <= 4294967296) = true := hx
  show cl (smT t) (t, ()) _ = some ((tstCause t v).1, (tstCause t v).2, ())
  simp only [cl, hx, hx', cond_true]
  cases hc : (tstOk t && (decide (t.2.1 = (1 : Int)) && inq v 1 3))
  · have e : tstCause t v = (t, false) := by unfold tstCause; rw [hc]; rfl
    rw [e]
    have := p_turn (tstOk t) (decide (t.2.1 = (1 : Int))) (inq v 1 3) (none : Option (MTst × Bool × Unit)) (some (t, false, ()))
    rw [hc] at this
    cases h1 : tstOk t
    · rfl
    · cases h2 : decide (t.2.1 = (1 : Int))
      · rfl
      · cases h3 : inq v 1 3
        · rfl
        · rw [h1, h2, h3] at hc; cases hc
  · have e : tstCause t v = (mkT t.1 t.2.2.1 v t.2.2.2.2, true) := by unfold tstCause; rw [hc]; rfl
    rw [e]
    simp only [Bool.and_eq_true, decide_eq_true_eq] at hc
    obtain ⟨h1, h2, h3⟩ := hc
    have hp : tsPre ((t.1, t.2.1, t.2.2.1, v, t.2.2.2.2) : MTst) = true := Qen (Qh6 h1 h2 h3)
    simp only [h1, decide_eq_true h2, h3, hp, cond_true, cond_false]
    rfl)⟩
theorem s_et : C_et (fun x => smT x.1) (fun x => ((tstCause x.1 x.2.1).1, (tstCause x.1 x.2.1).2, ())) := S_et s_iin s_es fun x hx => ⟨0, (ev_et 0 x.1 x.2.1).trans (cl_eq (by
  have hx : smT x.1 = true := hx
  show (smT x.1 && (decide ((1 : Int) = 1) && (inq x.2.1 1 3 == inq x.2.1 1 3))) = true
  rw [hx, beq_self_eq_true]; rfl))⟩
theorem s_by : C_by (fun x => smT x.1) (fun x => ((tstCause x.1 x.2.1).1, (tstCause x.1 x.2.1).2, ())) := S_by s_bm s_b8 s_at s_b7 fun x hx => ⟨0, (ev_by 0 x.1 x.2.1).trans (by
  obtain ⟨t, v, u⟩ := x
  change MTst at t
  change Int at v
  have hx : smT t = true := hx
  show cl (smT t) (t, ()) _ = some ((tstCause t v).1, (tstCause t v).2, ())
  simp only [cl, hx, cond_true]
  cases hc : (tstOk t && (decide (t.2.1 = (1 : Int)) && inq v 1 3))
  · have e : tstCause t v = (t, false) := by unfold tstCause; rw [hc]; rfl
    rw [e]
    cases h1 : tstOk t
    · rfl
    · cases h2 : decide (t.2.1 = (1 : Int))
      · cases inq v 1 3 <;> rfl
      · cases h3 : inq v 1 3
        · rfl
        · rw [h1, h2, h3] at hc; cases hc
  · have e : tstCause t v = (mkT t.1 t.2.2.1 v t.2.2.2.2, true) := by unfold tstCause; rw [hc]; rfl
    rw [e]
    simp only [Bool.and_eq_true, decide_eq_true_eq] at hc
    obtain ⟨h1, h2, h3⟩ := hc
    have hp : tsPre ((t.1, t.2.1, t.2.2.1, v, t.2.2.2.2) : MTst) = true := Qen (Qh6 h1 h2 h3)
    simp only [h1, decide_eq_true h2, h3, hp, cond_true, cond_false]
    rfl)⟩
theorem s_ev : C_ev (fun x => smT x.1 && (decide (x.2.1 = 2) && (x.2.2.1 == decOk x.2.2.2.1.1))) (fun x => ((tstMore x.1 x.2.2.2.1.1).1, (tstMore x.1 x.2.2.2.1.1).2, ())) := S_ev s_e5 s_cz s_eu s_cy fun x hx => ⟨0, (ev_ev 0 x.1 x.2.1 x.2.2.1 x.2.2.2.1).trans (by
  simp only [Bool.and_eq_true, decide_eq_true_eq, beq_iff_eq] at hx
  obtain ⟨t, st, may, ⟨v, u⟩, u2⟩ := x
  obtain ⟨hx, h4, h5⟩ := hx
  change MTst at t
  change MDec at v
  change st = (2 : Int) at h4
  change may = decOk v at h5
  subst h4 h5
  have hx : smT t = true := hx
  have hx' : decide (List.length t.2.2.2.2 <= 4294967296) = true := hx
  show cl (smT t) (t, ()) _ = some ((tstMore t v).1, (tstMore t v).2, ())
  simp only [cl, hx, hx', cond_true]
  cases hc : (tstOk t && (decide (t.2.1 = (2 : Int)) && decOk v))
  · have e : tstMore t v = (t, false) := by unfold tstMore; rw [hc]; rfl
    rw [e]
    have := p_turn (tstOk t) (decide (t.2.1 = (2 : Int))) (decOk v) (none : Option (MTst × Bool × Unit)) (some (t, false, ()))
    rw [hc] at this
    cases h1 : tstOk t
    · rfl
    · cases h2 : decide (t.2.1 = (2 : Int))
      · rfl
      · cases h3 : decOk v
        · rfl
        · rw [h1, h2, h3] at hc; cases hc
  · have e : tstMore t v = (mkT t.1 t.2.2.1 t.2.2.2.1 (t.2.2.2.2 ++ [v]), true) := by unfold tstMore; rw [hc]; rfl
    rw [e]
    simp only [Bool.and_eq_true, decide_eq_true_eq] at hc
    obtain ⟨h1, h2, h3⟩ := hc
    have hl := Qpv h1
    have hl' : decide (List.length t.2.2.2.2 + 1 <= 4294967296) = true := decide_eq_true (by omega)
    have hf : fitL t.2.2.2.2 [v] = true := Qau (by show t.2.2.2.2.length + 1 <= _; omega)
    have hp : tsPre ((t.1, t.2.1, t.2.2.1, t.2.2.2.1, t.2.2.2.2 ++ [v]) : MTst) = true := Qen (Qjq h1 h2 h3)
    simp only [h1, decide_eq_true h2, h3, hp, hl', cond_true, cond_false]
    rfl)⟩
theorem s_ew : C_ew (fun x => smT x.1) (fun x => ((tstMore x.1 x.2.1).1, (tstMore x.1 x.2.1).2, ())) := S_ew s_ce s_ev fun x hx => ⟨0, (ev_ew 0 x.1 x.2.1).trans (cl_eq (by
  have hx : smT x.1 = true := hx
  show (smT x.1 && (decide ((2 : Int) = 2) && (decOk x.2.1 == decOk x.2.1))) = true
  rw [hx, beq_self_eq_true]; rfl))⟩
theorem s_bz : C_bz (fun x => smT x.1) (fun x => ((tstMore x.1 x.2.1).1, (tstMore x.1 x.2.1).2, ())) := S_bz s_bm s_b8 s_av s_b7 fun x hx => ⟨0, (ev_bz 0 x.1 x.2.1).trans (by
  obtain ⟨t, v, u⟩ := x
  change MTst at t
  change MDec at v
  have hx : smT t = true := hx
  show cl (smT t) (t, ()) _ = some ((tstMore t v).1, (tstMore t v).2, ())
  simp only [cl, hx, cond_true]
  cases hc : (tstOk t && (decide (t.2.1 = (2 : Int)) && decOk v))
  · have e : tstMore t v = (t, false) := by unfold tstMore; rw [hc]; rfl
    rw [e]
    cases h1 : tstOk t
    · rfl
    · cases h2 : decide (t.2.1 = (2 : Int))
      · cases decOk v <;> rfl
      · cases h3 : decOk v
        · rfl
        · rw [h1, h2, h3] at hc; cases hc
  · have e : tstMore t v = (mkT t.1 t.2.2.1 t.2.2.2.1 (t.2.2.2.2 ++ [v]), true) := by unfold tstMore; rw [hc]; rfl
    rw [e]
    simp only [Bool.and_eq_true, decide_eq_true_eq] at hc
    obtain ⟨h1, h2, h3⟩ := hc
    have hl := Qpv h1
    have hl' : decide (List.length t.2.2.2.2 + 1 <= 4294967296) = true := decide_eq_true (by omega)
    have hf : fitL t.2.2.2.2 [v] = true := Qau (by show t.2.2.2.2.length + 1 <= _; omega)
    have hp : tsPre ((t.1, t.2.1, t.2.2.1, t.2.2.2.1, t.2.2.2.2 ++ [v]) : MTst) = true := Qen (Qjq h1 h2 h3)
    simp only [h1, decide_eq_true h2, h3, hp, hf, cond_true, cond_false]
    exact (congrArg (fun b => bif b then _ else none) hp).trans rfl)⟩

end Go.Proofs.YtjmohfahchamaaaGreat

set_option linter.unusedVariables false
set_option linter.unusedSimpArgs false
namespace Go.Proofs.YtjmohfahchamaaaGreat
open Go.Vm
theorem p_batNew {k n : Int} {l : List MAsk} (A : Option (MBat × Unit)) (hA : inq k 0 5 = true -> testsOk l = true -> inq n 1 10000 = true -> A = some ((k, n, l.map newT, 1, [], []), ())) :
    (bif (bif inq k 0 5 then false else true) then (some (((0 : Int), ((0 : Int), ([], ((0 : Int), ([], []))))), ())) else (bif (bif testsOk l then false else true) then (some (((0 : Int), ((0 : Int), ([], ((0 : Int), ([], []))))), ())) else (bif (bif inq n 1 10000 then false else true) then (some (((0 : Int), ((0 : Int), ([], ((0 : Int), ([], []))))), ())) else A))) = some (batNew k l n, ()) := by
  unfold batNew
  cases h1 : inq k 0 5
  · rfl
  · cases h2 : testsOk l
    · rfl
    · cases h3 : inq n 1 10000
      · rfl
      · exact hA h1 h2 h3
theorem s_ek : C_ek (fun x => smA x.2.1) (fun x => (batNew x.1 x.2.1 x.2.2.1, ())) := S_ek s_iin s_cl s_ej fun x hx => ⟨List.length x.2.1 + 1, (ev_ek _ x.1 x.2.1 x.2.2.1).trans (by
  obtain ⟨k, l, n, u⟩ := x
  change List MAsk at l
  have hx : decide (List.length l <= 4294967296) = true := hx
  have hl : List.length l <= 4294967296 := of_decide_eq_true hx
  simp only [cl, hx, cond_true]
  refine p_batNew (l := l) _ fun h1 h2 h3 => ?_
  have := Qaq (σ := List MTst) l (fun f i out => r_ek (fun x => (inq x.1 x.2.1 x.2.2.1, ())) (fun x => (testsOk x.1, ())) (fun x => decide (List.length x.1 <= 4294967296)) (fun x => ((x.1, 0, (0, 0), 0, []), ())) (k, l, n, ()) f pt2 (h0_ek k l n (List.length l : Int) (i : Int) (0 : Int) (0 : Int) (0 : Int) [] [] [] (1 : Int) out [] [])) (fun r i out => ((k, n, out ++ r.map newT, 1, [], []), ())) (fun i out => out.length = i) (fun f s hs => by
    rw [rd0_ek, Qab (Nat.le_refl _), List.map_nil, List.append_nil]; rfl) (fun f i y r s hd hi hs => by
    refine .inr ⟨s ++ [newT y], by rw [List.length_append]; show s.length + 1 = i + 1; omega, ?_, by simp⟩
    rw [rd0_ek, Qac hi, Qad hi, Qaf (by omega), Qaa hd, Qau (by show s.length + 1 <= _; omega)]; rfl) l.length 0 [] (by omega) rfl
  simpa using this)⟩
theorem s_bv : C_bv (fun x => smA x.2.1) (fun x => (batNew x.1 x.2.1 x.2.2.1, ())) := S_bv s_at s_b0 s_bu fun x hx => ⟨List.length x.2.1 + 1, (ev_bv _ x.1 x.2.1 x.2.2.1).trans (by
  obtain ⟨k, l, n, u⟩ := x
  change List MAsk at l
  have hl : List.length l <= 4294967296 := of_decide_eq_true hx
  refine p_batNew (l := l) _ fun h1 h2 h3 => ?_
  have := Qaq (σ := List MTst) l (fun f i out => r_bv (fun x => (inq x.1 x.2.1 x.2.2.1, ())) (fun x => (testsOk x.1, ())) (fun x => ((x.1, 0, (0, 0), 0, []), ())) (k, l, n, ()) f pt2 (h0_bv k l n (i : Int) (0 : Int) (0 : Int) (0 : Int) [] [] [] (1 : Int) out [] [])) (fun r i out => ((k, n, out ++ r.map newT, 1, [], []), ())) (fun i out => out.length = i) (fun f s hs => by
    rw [rd0_bv, Qab (Nat.le_refl _), List.map_nil, List.append_nil]; rfl) (fun f i y r s hd hi hs => by
    refine .inr ⟨s ++ [newT y], by rw [List.length_append]; show s.length + 1 = i + 1; omega, ?_, by simp⟩
    rw [rd0_bv, Qac hi, Qad hi, Qaf (by omega), Qaa hd, Qau (by show s.length + 1 <= _; omega)]; rfl) l.length 0 [] (by omega) rfl
  simpa using this)⟩
theorem s_d1 : C_d1 (fun _ => true) (fun x => (signs x.1, ())) := S_d1 fun x _ => ⟨0, (ev_d1 0 x.1).trans (by
  have key : ∀ c : Int, (bif (decide (c = (2 : Int))) then (some (true, ())) else (some ((decide (c = (3 : Int))), ()))) = some (signs c, ()) := fun c => by
    unfold signs; cases decide (c = 2) <;> rfl
  exact key x.1)⟩
theorem s_d2 : C_d2 (fun _ => true) (fun x => (sigOk x.1, ())) := S_d2 s_d0 s_d1 s_iin fun x _ => ⟨0, (ev_d2 0 x.1).trans (by
  have key : ∀ s : MSig, (bif inq s.1 1 5 then (bif signs s.2.1 then some (inq s.2.2 0 999982, ()) else some (false, ())) else some (false, ())) = some (sigOk s, ()) := fun s => by
    unfold sigOk; cases inq s.1 1 5 <;> cases signs s.2.1 <;> rfl
  exact key x.1)⟩
theorem s_d3 : C_d3 (fun _ => true) (fun x => (!sigOk x.1, ())) := S_d3 s_d2 fun x _ => ⟨0, (ev_d3 0 x.1).trans (by simp only [Qa1])⟩
theorem s_d6 : C_d6 (fun _ => true) (fun x => (!passed x.1, ())) := S_d6 fun x _ => ⟨0, (ev_d6 0 x.1).trans (by simp only [Qa1]; rfl)⟩

theorem s_d4 : C_d4 (fun x => decide (List.length x.1 <= 4294967296)) (fun x => (idxOf (fun d : MSig => !sigOk d) x.1 0, ())) := S_d4 s_d3 fun x hx => ⟨List.length x.1 + 1, (ev_d4 _ x.1 x.2.1).trans (by
  have hx : List.length x.1 <= 4294967296 := of_decide_eq_true hx
  refine Qbg (α := MSig) x.1 (fun d => !sigOk d) (fun k i => r_d4 (fun x => (!sigOk x.1, ())) (fun _ => true) (x.1, x.2.1, ()) k pt1 (h0_d4 x.1 x.2.1 (List.length x.1 : Int) (i : Int))) (fun k => ?_) (fun k i y r hd hi => ?_)
  · rw [rd0_d4, Qab (Nat.le_refl _)]; rfl
  · rw [rd0_d4, Qac hi, Qad hi, Qaf (by omega), Qaa hd]; rfl)⟩
theorem s_d5 : C_d5 (fun x => decide (List.length x.1 <= 4294967296)) (fun x => (List.any x.1 (fun d : MSig => !sigOk d), ())) := S_d5 s_d4 fun x hx => ⟨0, (ev_d5 0 x.1 x.2.1).trans (by
  have hx : decide (List.length x.1 <= 4294967296) = true := hx
  simp only [cl, hx, cond_true, Qbl])⟩
theorem s_d7 : C_d7 (fun x => decide (List.length x.1 <= 4294967296)) (fun x => (idxOf (fun d : MTst => !passed d) x.1 0, ())) := S_d7 s_d6 fun x hx => ⟨List.length x.1 + 1, (ev_d7 _ x.1 x.2.1).trans (by
  have hx : List.length x.1 <= 4294967296 := of_decide_eq_true hx
  refine Qbg (α := MTst) x.1 (fun d => !passed d) (fun k i => r_d7 (fun x => (!passed x.1, ())) (x.1, x.2.1, ()) k pt1 (h0_d7 x.1 x.2.1 (List.length x.1 : Int) (i : Int))) (fun k => ?_) (fun k i y r hd hi => ?_)
  · rw [rd0_d7, Qab (Nat.le_refl _)]; rfl
  · rw [rd0_d7, Qac hi, Qad hi, Qaf (by omega), Qaa hd]; rfl)⟩
theorem s_d8 : C_d8 (fun x => decide (List.length x.1 <= 4294967296)) (fun x => (List.any x.1 (fun d : MTst => !passed d), ())) := S_d8 s_d7 fun x hx => ⟨0, (ev_d8 0 x.1 x.2.1).trans (by
  have hx : decide (List.length x.1 <= 4294967296) = true := hx
  simp only [cl, hx, cond_true, Qbl])⟩
theorem s_d9 : C_d9 (fun x => decide (List.length x.1 <= 4294967296)) (fun x => (idxOf (fun d : Bool => x.2.1 == d) x.1 0, ())) := S_d9 fun x hx => ⟨List.length x.1 + 1, (ev_d9 _ x.1 x.2.1).trans (by
  have hx : List.length x.1 <= 4294967296 := of_decide_eq_true hx
  refine Qbg (α := Bool) x.1 (fun d => x.2.1 == d) (fun k i => r_d9 (x.1, x.2.1, ()) k pt1 (h0_d9 x.1 x.2.1 (List.length x.1 : Int) (i : Int))) (fun k => ?_) (fun k i y r hd hi => ?_)
  · rw [rd0_d9, Qab (Nat.le_refl _)]; rfl
  · rw [rd0_d9, Qac hi, Qad hi, Qaf (by omega), Qaa hd]; rfl)⟩
theorem s_da : C_da (fun x => decide (List.length x.1 <= 4294967296)) (fun x => (List.any x.1 (fun d : Bool => x.2.1 == d), ())) := S_da s_d9 fun x hx => ⟨0, (ev_da 0 x.1 x.2.1).trans (by
  have hx : decide (List.length x.1 <= 4294967296) = true := hx
  simp only [cl, hx, cond_true, Qbl])⟩
theorem s_db : C_db (fun x => mixPre x.1 x.2.1) (fun x => (mixes x.1 x.2.1, ())) := S_db fun x hx => by
  obtain ⟨m, l, u⟩ := x
  change List Int at l
  obtain ⟨h1, h2⟩ := Qi3.1 hx
  have h2 : List.length l <= 4294967296 := h2
  refine ⟨List.length l + 1, (ev_db _ m l).trans ?_⟩
  have := Qaq (σ := Int) l (fun k i c => r_db (m, l, ()) k pt1 (h0_db m l c (List.length l : Int) (i : Int))) (fun r i c => (mixes c r, ())) (fun i c => mkR c) (fun k c hc => by
    rw [rd0_db, Qab (Nat.le_refl _)]; rfl) (fun k i y r c hd hi hc => by
    refine .inr ⟨mix c y, mix_r hc, ?_, rfl⟩
    rw [rd0_db, Qac hi, Qad hi, Qaf (by omega), Qaa hd, mix_w hc]; rfl) l.length 0 m (by omega) h1
  simpa using this
theorem Qpw {m : Int} {l : List Int} (h : mkR m) (hl : l.length <= 4) : mixPre m l = true := Qi3.2 ⟨h, by omega⟩
theorem Qfi : ∀ (l : List MDec) (i : Nat) (m : Int), foldI (fun _ m (v : MDec) => mix (mix m v.1) v.2) i m l = markMore m l
  | [], i, m => rfl
  | v :: r, i, m => Qfi r (i + 1) _
theorem Qf7 : ∀ (l : List MTst) (i : Nat) (m : Int), foldI (fun _ m t => markTst m t) i m l = markTsts m l
  | [], i, m => rfl
  | v :: r, i, m => Qf7 r (i + 1) _
theorem Qf8 : ∀ (l : List Bool) (i : Nat) (m : Int), foldI (fun i m d => markDev m i d) i m l = markDevs i m l
  | [], i, m => rfl
  | v :: r, i, m => Qf8 r (i + 1) _
theorem s_dc : C_dc (fun x => smB x.1) (fun x => (batMark x.1, ())) := S_dc s_db fun x hx => by
  obtain ⟨b, u⟩ := x
  change MBat at b
  have hx : smB b = true := hx
  obtain ⟨h1, h2, h3, h4⟩ := Qba.1 hx
  refine WithFuel.eq ?_
  show WithFuel (fun k => E_dc (fun x => (mixes x.1 x.2.1, ())) (fun x => mixPre x.1 x.2.1) k (b, ())) _
  have ev := fun k => ev_dc (g_db := fun x => (mixes x.1 x.2.1, ())) (p_db := fun x => mixPre x.1 x.2.1) k b
  have hp := fun (m : Int) (l : List Int) (h : mkR m) (hl : l.length <= 4) => Qpw h hl
  simp only [ev, cl, hp _ _ one_r (show List.length [b.1] <= 4 from Nat.le_of_ble_eq_true rfl), cond_true]
  refine Qdi b.2.2.1 (fun _ m t => markTst m t) mkR (fun k i m => r_dc (fun x => (mixes x.1 x.2.1, ())) (fun x => mixPre x.1 x.2.1) (b, ()) k pt0 (h0_dc b m (List.length b.2.2.1 : Int) (i : Int))) _ (fun i s x hs => Qgv hs) (mix 1 b.1) (mix_r one_r) (fun hr => ?_) (fun i t r m hd hi hm hk => ?_)
  · rw [Qf7] at hr ⊢
    have hdev := Qdi (P := fun v => v = (batMark b, ())) b.2.2.2.2.2 (fun i m d => markDev m i d) mkR (fun k i m => r_dc (fun x => (mixes x.1 x.2.1, ())) (fun x => mixPre x.1 x.2.1) (b, ()) k pt2 (h2_dc b m (List.length b.2.2.2.2.2 : Int) (i : Int))) (fun i s x hs => Qgw hs) (markTsts (mix 1 b.1) b.2.2.1) hr (fun hr => ?_) (fun i d r m hd hi hm hk => ?_)
    · obtain ⟨k, hk⟩ := hdev
      refine ⟨k + 1, ?_⟩
      dsimp only
      rw [rd0_dc, lt_eq, Qab (Nat.le_refl _)]
      exact hk
    · rw [Qf8]
      refine Qkm 1 ?_
      dsimp only
      rw [rd2_dc, Qab (Nat.le_refl _)]; rfl
    · obtain ⟨k, v, hk, hv⟩ := hk
      refine ⟨k + 1, v, ?_, hv⟩
      dsimp only
      rw [rd2_dc, Qac hi, Qad hi, Qaf (by omega), Qaa hd]
      have g1 := hp m [((i + 1 : Nat) : Int)] hm (Nat.le_of_ble_eq_true rfl)
      have g2 := hp (mix m ((i + 1 : Nat) : Int)) [77] (mix_r hm) (Nat.le_of_ble_eq_true rfl)
      have g2' : mixPre (mixes m [((i + 1 : Nat) : Int)]) [77] = true := g2
      simp only [cl, g1, g2', cond_true]
      cases d
      · exact hk
      · exact hk
  · have hmore := Qdi (P := fun v => v = (batMark b, ())) t.2.2.2.2 (fun _ m (v : MDec) => mix (mix m v.1) v.2) mkR (fun k j m => r_dc (fun x => (mixes x.1 x.2.1, ())) (fun x => mixPre x.1 x.2.1) (b, ()) k pt5 (h1_dc b m (List.length b.2.2.1 : Int) (i : Int) t.2.2.2.2 (List.length t.2.2.2.2 : Int) (j : Int))) (fun i s x hs => mix_r (mix_r hs)) (markHead m t) (Qf0 hm) (fun hr => ?_) (fun j v r' m' hd' hj hm' hk' => ?_)
    · obtain ⟨k, v, hk, hv⟩ := hmore
      refine ⟨k + 1, v, ?_, hv⟩
      dsimp only
      rw [rd0_dc, lt_eq, Qac hi, Qad hi, Qaa hd]
      have g1 := hp m [t.2.1, t.2.2.1.1, t.2.2.1.2, t.2.2.2.1] hm (Nat.le_of_ble_eq_true rfl)
      simp only [cl, g1, cond_true]
      exact hk
    · rw [Qfi]
      obtain ⟨k, v, hk, hv⟩ := hk
      refine ⟨k + 1, v, ?_, hv⟩
      dsimp only
      rw [rd1_dc, Qab (Nat.le_refl _), Qaf (i := i) (by omega)]
      exact hk
    · obtain ⟨k, v', hk, hv⟩ := hk'
      refine ⟨k + 1, v', ?_, hv⟩
      have hlt : List.length t.2.2.2.2 <= 4294967296 := h2 t (Qas hd)
      dsimp only
      rw [rd1_dc, Qac hj, Qad hj, Qaf (by omega), Qaa hd']
      have g1 := hp m' [v.1, v.2] hm' (Nat.le_of_ble_eq_true rfl)
      simp only [cl, g1, cond_true]
      exact hk
theorem s_dd : C_dd (fun x => smB x.1) (fun x => (batSigned x.1 x.2.1 x.2.2.1, ())) := S_dd s_dc fun x hx => ⟨List.length x.1.2.2.2.2.1 + 1, (ev_dd _ x.1 x.2.1 x.2.2.1).trans (by
  obtain ⟨b, role, but, u⟩ := x
  change MBat at b
  have hx : smB b = true := hx
  have h3 := (Qba.1 hx).2.2.1
  simp only [cl, hx, cond_true]
  have := Qaq (σ := Unit) b.2.2.2.2.1 (fun k i _ => r_dd (fun x => (batMark x.1, ())) (fun x => smB x.1) (b, role, but, ()) k pt0 (h0_dd b role but (batMark b) (List.length b.2.2.2.2.1 : Int) (i : Int))) (fun r i _ => (signedBy (batMark b) role but r, ())) (fun _ _ => True) (fun k s _ => by
    rw [rd0_dd, Qab (Nat.le_refl _)]; rfl) (fun k i y r s hd hi _ => by
    rw [rd0_dd, Qac hi, Qad hi, Qaf (by omega), Qaa hd]
    have e : signedBy (batMark b) role but (y :: r) = bif decide (y.2.1 = role) && (decide (y.2.2 = batMark b) && !decide (y.1 = but)) then y.1 else signedBy (batMark b) role but r := rfl
    rw [e]
    cases decide (y.2.1 = role)
    · exact .inr ⟨(), trivial, rfl, rfl⟩
    · cases decide (y.2.2 = batMark b)
      · exact .inr ⟨(), trivial, rfl, rfl⟩
      · cases decide (y.1 = but)
        · exact .inl rfl
        · exact .inr ⟨(), trivial, rfl, rfl⟩) b.2.2.2.2.1.length 0 () (by omega) trivial
  rw [List.drop_zero] at this
  exact this)⟩
theorem s_de : C_de (fun x => smB x.2.2.1) (fun x => (decide (x.1.2.1 = 2) && (decide (x.1.2.2 = x.2.1) && decide (0 < batSigned x.2.2.1 3 x.1.1)), ())) := S_de s_dd fun x hx => ⟨0, (ev_de 0 x.1 x.2.1 x.2.2.1).trans (by
  have hx : smB x.2.2.1 = true := hx
  simp only [cl, hx, cond_true]
  have key : ∀ a b c : Bool, (bif a then (bif b then some (c, ()) else some (false, ())) else some (false, ())) = some (a && (b && c), ()) := by intro a b c; cases a <;> cases b <;> rfl
  exact key _ _ _)⟩
theorem s_df : C_df (fun x => decide (List.length x.1 <= 4294967296) && smB x.2.1.2.1) (fun x => (idxOf (fun s : MSig => decide (s.2.1 = 2) && (decide (s.2.2 = x.2.1.1) && decide (0 < batSigned x.2.1.2.1 3 s.1))) x.1 0, ())) := S_df s_de fun x hx => ⟨List.length x.1 + 1, (ev_df _ x.1 x.2.1).trans (by
  obtain ⟨hx, hb⟩ := Bool.and_eq_true_iff.1 hx
  have hx : List.length x.1 <= 4294967296 := of_decide_eq_true hx
  refine Qbg (α := MSig) x.1 (fun s : MSig => decide (s.2.1 = 2) && (decide (s.2.2 = x.2.1.1) && decide (0 < batSigned x.2.1.2.1 3 s.1))) (fun k i => r_df (fun x => (decide (x.1.2.1 = 2) && (decide (x.1.2.2 = x.2.1) && decide (0 < batSigned x.2.2.1 3 x.1.1)), ())) (fun x => smB x.2.2.1) (x.1, x.2.1, ()) k pt1 (h0_df x.1 x.2.1 (List.length x.1 : Int) (i : Int))) (fun k => ?_) (fun k i y r hd hi => ?_)
  · rw [rd0_df, Qab (Nat.le_refl _)]; rfl
  · rw [rd0_df, Qac hi, Qad hi, Qaf (by omega), Qaa hd]
    simp only [cl, hb, cond_true])⟩
theorem s_dg : C_dg (fun x => decide (List.length x.1 <= 4294967296) && smB x.2.1.2.1) (fun x => (List.any x.1 (fun s : MSig => decide (s.2.1 = 2) && (decide (s.2.2 = x.2.1.1) && decide (0 < batSigned x.2.1.2.1 3 s.1))), ())) := S_dg s_df fun x hx => ⟨0, (ev_dg 0 x.1 x.2.1).trans (by
  have hx : (decide (List.length x.1 <= 4294967296) && smB x.2.1.2.1) = true := hx
  simp only [cl, hx, cond_true, Qbl])⟩
theorem s_dh : C_dh (fun x => smB x.1) (fun x => (gate x.1, ())) := S_dh s_d8 s_da s_dc s_dg fun x hx => ⟨0, (ev_dh 0 x.1).trans (by
  have hx : smB x.1 = true := hx
  obtain ⟨h1, h2, h3, h4⟩ := Qba.1 (show smB _ = true from hx)
  have h1 : decide (List.length x.1.2.2.1 <= 4294967296) = true := decide_eq_true h1
  have h3 : decide (List.length x.1.2.2.2.2.1 <= 4294967296) = true := decide_eq_true h3
  have h4 : decide (List.length x.1.2.2.2.2.2 <= 4294967296) = true := decide_eq_true h4
  simp only [cl, hx, h1, h3, h4, cond_true, Bool.and_self]
  unfold gate shutAll hands
  have e1 : (!(List.any x.1.2.2.1 fun d : MTst => !passed d)) = List.all x.1.2.2.1 passed := Qbs _ _
  have e2 : (!(List.any x.1.2.2.2.2.2 fun d : Bool => true == d)) = List.all x.1.2.2.2.2.2 (!·) := by
    rw [<- Qbs (fun d : Bool => !d)]
    congr 2
    funext d; cases d <;> rfl
  rw [<- e1, <- e2]
  cases (List.any x.1.2.2.1 fun d : MTst => !passed d) <;> cases (List.any x.1.2.2.2.2.2 fun d : Bool => true == d) <;> rfl)⟩
theorem s_di : C_di (fun x => smB x.1) (fun x => (batOk x.1, ())) := S_di s_iin s_cz s_d5 s_dh fun x hx => by
  obtain ⟨b, u⟩ := x
  change MBat at b
  have hx : smB b = true := hx
  obtain ⟨h1, h2, h3, h4⟩ := Qba.1 (show smB _ = true from hx)
  have key : ∃ k, r_di (fun x => (inq x.1 x.2.1 x.2.2.1, ())) (fun x => (tstOk x.1, ())) (fun x => decide (List.length x.1.2.2.2.2 <= 4294967296)) (fun x => (List.any x.1 (fun d : MSig => !sigOk d), ())) (fun x => decide (List.length x.1 <= 4294967296)) (fun x => (gate x.1, ())) (fun x => smB x.1) (b, ()) k pt0 (h0_di b (List.length b.2.2.1 : Int) (0 : Int)) =
      some (riseL tstOk (fun t => t.1.1) none b.2.2.1 && (decide (b.2.2.2.2.1.length <= 6) && (b.2.2.2.2.1.all sigOk && (decide (b.2.2.2.2.2.length <= 3) && (!freed b.2.2.2.1 || gate b)))), ()) := by
    refine Qkn tstOk (fun t : MTst => t.1.1) b.2.2.1 _ (fun k i => r_di (fun x => (inq x.1 x.2.1 x.2.2.1, ())) (fun x => (tstOk x.1, ())) (fun x => decide (List.length x.1.2.2.2.2 <= 4294967296)) (fun x => (List.any x.1 (fun d : MSig => !sigOk d), ())) (fun x => decide (List.length x.1 <= 4294967296)) (fun x => (gate x.1, ())) (fun x => smB x.1) (b, ()) k pt0 (h0_di b (List.length b.2.2.1 : Int) (i : Int))) (fun _ => ⟨1, ?_⟩) (fun k i t r hd hi => ?_)
    · rw [rd0_di, lt_eq, lt_eq, Qab (Nat.le_refl _)]
      have h3' : decide (List.length b.2.2.2.2.1 <= 4294967296) = true := decide_eq_true h3
      simp only [cl, hx, h3', cond_true, cond_false]
      have e1 : (!(List.any b.2.2.2.2.1 fun d : MSig => !sigOk d)) = List.all b.2.2.2.2.1 sigOk := Qbs _ _
      rw [<- e1]
      have d1 : decide (b.2.2.2.2.1.length <= 6) = !decide ((6 : Int) < (List.length b.2.2.2.2.1 : Int)) := by
        by_cases h : b.2.2.2.2.1.length <= 6
        · rw [decide_eq_true h, decide_eq_false (by omega)]; rfl
        · rw [decide_eq_false h, decide_eq_true (by omega)]; rfl
      have d2 : decide (b.2.2.2.2.2.length <= 3) = !decide ((3 : Int) < (List.length b.2.2.2.2.2 : Int)) := by
        by_cases h : b.2.2.2.2.2.length <= 3
        · rw [decide_eq_true h, decide_eq_false (by omega)]; rfl
        · rw [decide_eq_false h, decide_eq_true (by omega)]; rfl
      rw [d1, d2]
      unfold freed
      cases decide ((6 : Int) < (List.length b.2.2.2.2.1 : Int))
      · cases (List.any b.2.2.2.2.1 fun d : MSig => !sigOk d)
        · cases decide ((3 : Int) < (List.length b.2.2.2.2.2 : Int))
          · cases decide (b.2.2.2.1 = 2) <;> cases decide (b.2.2.2.1 = 4) <;> cases gate b <;> rfl
          · rfl
        · rfl
      · rfl
    · rw [rd0_di, lt_eq, lt_eq, Qac hi, Qad hi, Qaf (by omega)]
      have hp : decide (List.length (rdL (e := S_TstTest) b.2.2.1 (i : Int)).2.2.2.2 <= 4294967296) = true := by
        rw [Qaa hd]; exact decide_eq_true (h2 t (Qas hd))
      simp only [cl, hp, cond_true]
      exact Qko tstOk (fun t : MTst => t.1.1) h1 hd hi _ (fun j => rdL (e := S_TstTest) b.2.2.1 j) (fun j hj => Qg4 j hj)
  obtain ⟨k, hk⟩ := key
  refine ⟨k, (ev_di k b).trans ?_⟩
  unfold batOk batOkA tstsOk
  simp only [hk]
  cases inq b.1 0 5
  · rfl
  · cases inq b.2.1 1 10000
    · rfl
    · cases inq (List.length b.2.2.1 : Int) 1 4
      · rfl
      · cases inq b.2.2.2.1 1 4
        · rfl
        · simp only [Bool.true_and, Bool.and_assoc]; rfl
end Go.Proofs.YtjmohfahchamaaaGreat

set_option linter.unusedVariables false
set_option linter.unusedSimpArgs false
namespace Go.Proofs.YtjmohfahchamaaaGreat
open Go.Vm
theorem s_dv : C_dv (fun _ => true) (fun x => (Go.Lib.indexByte x.1.data.toList x.2.1.toNat.toUInt8, ())) := S_dv s_du fun x _ => ⟨0, (ev_dv 0 x.1 x.2.1).trans rfl⟩
/-- Where a letter stands in a word. -/
def wordAt (s w : ByteArray) : Int := bif s.data.toList == w.data.toList then 0 else Go.Lib.indexByte s.data.toList (strAt w 0).toNat.toUInt8
def one1 (w : ByteArray) : Bool := decide (w.data.toList.length = 1)
theorem Qqv {w : ByteArray} (h : one1 w = true) : ByteArray.size w = 1 := by
  have h : w.data.toList.length = 1 := of_decide_eq_true h
  rw [<- h]; rfl
theorem s_dw : C_dw (fun x => one1 x.2.1) (fun x => (wordAt x.1 x.2.1, ())) := S_dw s_dv fun x hx => ⟨0, (ev_dw 0 x.1 x.2.1).trans (by
  have h : ByteArray.size x.2.1 = 1 := Qqv hx
  rw [h]
  have e : (ByteArray.toList x.2.1 == ByteArray.toList x.1) = (x.1.data.toList == x.2.1.data.toList) := by
    rw [ByteArray.toList_eq, ByteArray.toList_eq, Bool.beq_comm]
  rw [e]
  unfold wordAt
  cases (x.1.data.toList == x.2.1.data.toList) <;> rfl)⟩
theorem s_dx : C_dx (fun x => one1 x.2.1) (fun x => (wordAt x.1 x.2.1, ())) := S_dx s_dw fun x hx => ⟨0, (ev_dx 0 x.1 x.2.1).trans (cl_eq hx)⟩
theorem s_dy : C_dy (fun x => one1 x.2.1) (fun x => (decide (0 <= wordAt x.1 x.2.1), ())) := S_dy s_dx fun x hx => ⟨0, (ev_dy 0 x.1 x.2.1).trans (cl_eq hx)⟩
theorem s_dz : C_dz (fun x => one1 x.1) (fun x => (decide (0 <= wordAt x.2.1.2.2 x.1), ())) := S_dz s_dy fun x hx => ⟨0, (ev_dz 0 x.1 x.2.1).trans (cl_eq hx)⟩
abbrev MMan : Type := ByteArray × List Int × ByteArray
def by0 : ByteArray := ByteArray.mk (Array.mk [])
def mans : List MMan := [((ByteArray.mk (Array.mk [])), ([], (ByteArray.mk (Array.mk [])))), ((ByteArray.mk (Array.mk [(100 : UInt8), (114 : UInt8), (97 : UInt8), (102 : UInt8), (116 : UInt8)])), ([(4 : Int)], (ByteArray.mk (Array.mk [])))), ((ByteArray.mk (Array.mk [(114 : UInt8), (97 : UInt8), (105 : UInt8), (115 : UInt8), (101 : UInt8)])), ([(4 : Int)], (ByteArray.mk (Array.mk [(78 : UInt8)])))), ((ByteArray.mk (Array.mk [(116 : UInt8), (97 : UInt8), (107 : UInt8), (101 : UInt8)])), ([(1 : Int), (2 : Int)], (ByteArray.mk (Array.mk [(78 : UInt8)])))), ((ByteArray.mk (Array.mk [(112 : UInt8), (117 : UInt8), (116 : UInt8)])), ([(1 : Int), (2 : Int)], (ByteArray.mk (Array.mk [(66 : UInt8), (84 : UInt8), (86 : UInt8)])))), ((ByteArray.mk (Array.mk [(99 : UInt8), (97 : UInt8), (117 : UInt8), (115 : UInt8), (101 : UInt8)])), ([(2 : Int), (3 : Int)], (ByteArray.mk (Array.mk [(66 : UInt8), (84 : UInt8), (78 : UInt8)])))), ((ByteArray.mk (Array.mk [(109 : UInt8), (111 : UInt8), (114 : UInt8), (101 : UInt8)])), ([(1 : Int), (2 : Int)], (ByteArray.mk (Array.mk [(66 : UInt8), (84 : UInt8), (86 : UInt8)])))), ((ByteArray.mk (Array.mk [(111 : UInt8), (112 : UInt8), (101 : UInt8), (110 : UInt8)])), ([(1 : Int), (2 : Int)], (ByteArray.mk (Array.mk [(66 : UInt8)])))), ((ByteArray.mk (Array.mk [(99 : UInt8), (108 : UInt8), (111 : UInt8), (115 : UInt8), (101 : UInt8)])), ([(2 : Int), (3 : Int)], (ByteArray.mk (Array.mk [(66 : UInt8), (78 : UInt8)])))), ((ByteArray.mk (Array.mk [(115 : UInt8), (105 : UInt8), (103 : UInt8), (110 : UInt8)])), ([(2 : Int), (3 : Int)], (ByteArray.mk (Array.mk [(66 : UInt8)])))), ((ByteArray.mk (Array.mk [(102 : UInt8), (114 : UInt8), (101 : UInt8), (101 : UInt8)])), ([(3 : Int)], (ByteArray.mk (Array.mk [(66 : UInt8)])))), ((ByteArray.mk (Array.mk [(114 : UInt8), (101 : UInt8), (102 : UInt8), (117 : UInt8), (115 : UInt8), (101 : UInt8)])), ([(3 : Int)], (ByteArray.mk (Array.mk [(66 : UInt8)])))), ((ByteArray.mk (Array.mk [(114 : UInt8), (101 : UInt8), (99 : UInt8), (97 : UInt8), (108 : UInt8), (108 : UInt8)])), ([(3 : Int)], (ByteArray.mk (Array.mk [(66 : UInt8)]))))]
theorem s_ds : C_ds (fun _ => true) (fun _ => (mans, ())) := S_ds fun x _ => ⟨0, ev_ds 0⟩
def manOf (k : Int) : MMan := if inq k 1 12 = true then mans.getD k.toNat (by0, [], by0) else (by0, [], by0)
theorem s_dt : C_dt (fun _ => true) (fun x => (manOf x.1, ())) := S_dt s_iin s_ds fun x _ => ⟨0, (ev_dt 0 x.1).trans (by
  have key : ∀ k : Int, (bif (bif inq k 1 12 then false else true) then some ((by0, [], by0), ()) else (bif (bif decide ((0 : Int) <= k) then decide (k < (List.length mans : Int)) else false) then some ((rdL (e := S_manner) mans k), ()) else none)) = some (manOf k, ()) := by
    intro k
    unfold manOf
    cases h : inq k 1 12
    · rfl
    · obtain ⟨h1, h2⟩ := Qah.1 h
      have hl : ((List.length mans : Nat) : Int) = 13 := rfl
      rw [hl, decide_eq_true (show (0 : Int) <= k by omega), decide_eq_true (show k < 13 by omega)]; rfl
  exact key x.1)⟩
theorem kinds {k : Int} (h : inq k 1 12 = true) : k = 1 ∨ k = 2 ∨ k = 3 ∨ k = 4 ∨ k = 5 ∨ k = 6 ∨ k = 7 ∨ k = 8 ∨ k = 9 ∨ k = 10 ∨ k = 11 ∨ k = 12 := by
  have := Qah.1 h; omega
/-- What is known of a kind. -/
theorem Qqw (k : Int) : (ByteArray.toList (manOf k).1 == ByteArray.toList by0) = !inq k 1 12 := by
  rw [ByteArray.toList_eq, ByteArray.toList_eq]
  cases h : inq k 1 12
  · unfold manOf; rw [h]; rfl
  · rcases kinds h with rfl | rfl | rfl | rfl | rfl | rfl | rfl | rfl | rfl | rfl | rfl | rfl <;> rfl
theorem Qrc (k : Int) : decide (0 <= wordAt (manOf k).2.2 (ByteArray.mk (Array.mk [(66 : UInt8)]))) = hasB k /\ decide (0 <= wordAt (manOf k).2.2 (ByteArray.mk (Array.mk [(78 : UInt8)]))) = hasN k /\ decide (0 <= wordAt (manOf k).2.2 (ByteArray.mk (Array.mk [(86 : UInt8)]))) = hasV k /\ decide (0 <= wordAt (manOf k).2.2 (ByteArray.mk (Array.mk [(84 : UInt8)]))) = hasT k := by
  cases h : inq k 1 12
  · have h' : ¬ (1 <= k /\ k <= 12) := fun h2 => by rw [Qah.2 h2] at h; cases h
    have e : manOf k = (by0, [], by0) := by unfold manOf; rw [h]; rfl
    have b1 : hasB k = false := by unfold hasB; refine Bool.eq_false_iff.2 fun h2 => ?_; have := Qah.1 h2; omega
    have b2 : hasT k = false := by unfold hasT; refine Bool.eq_false_iff.2 fun h2 => ?_; have := Qah.1 h2; omega
    have b3 : hasN k = false := by unfold hasN; rw [decide_eq_false (by omega), decide_eq_false (by omega), decide_eq_false (by omega), decide_eq_false (by omega)]; rfl
    have b4 : hasV k = false := by unfold hasV; rw [decide_eq_false (by omega), decide_eq_false (by omega)]; rfl
    rw [e, b1, b2, b3, b4]
    exact ⟨rfl, rfl, rfl, rfl⟩
  · rcases kinds h with rfl | rfl | rfl | rfl | rfl | rfl | rfl | rfl | rfl | rfl | rfl | rfl <;> exact ⟨rfl, rfl, rfl, rfl⟩
theorem Qrd {c : Bool} {a b : Bool} : (bif c then (some (a, ())) else (some (b, ())) : Option (Bool × Unit)) = some (bif c then a else b, ()) := by cases c <;> rfl
theorem s_e0 : C_e0 (fun x => smA x.1.2.2.2.2.2.2) (fun x => (reqOk x.1, ())) := S_e0 s_dt s_cl s_dz s_iin s_ce s_cc s_d0 fun x hx => ⟨0, (ev_e0 0 x.1).trans (by
  obtain ⟨r, u⟩ := x
  change MReq at r
  have hx : decide (List.length r.2.2.2.2.2.2 <= 4294967296) = true := hx
  obtain ⟨hB, hN, hV, hT⟩ := Qrc r.2.1
  have o1 : one1 (ByteArray.mk (Array.mk [(66 : UInt8)])) = true := rfl
  have o2 : one1 (ByteArray.mk (Array.mk [(78 : UInt8)])) = true := rfl
  have o3 : one1 (ByteArray.mk (Array.mk [(86 : UInt8)])) = true := rfl
  have o4 : one1 (ByteArray.mk (Array.mk [(84 : UInt8)])) = true := rfl
  have hw : (ByteArray.toList (manOf r.2.1).1 == ByteArray.toList (ByteArray.mk (Array.mk []))) = !inq r.2.1 1 12 := Qqw r.2.1
  have e0 : decide ((List.length r.2.2.2.2.2.2 : Int) = (0 : Int)) = decide (List.length r.2.2.2.2.2.2 = 0) := by
    by_cases h : List.length r.2.2.2.2.2.2 = 0
    · rw [decide_eq_true h, decide_eq_true (by omega)]
    · rw [decide_eq_false h, decide_eq_false (by omega)]
  simp only [lt_eq, cl, o1, o2, o3, o4, hx, hB, hN, hV, hT, hw, e0, Qjr, cond_true, Qrd, Qcb]
  unfold reqOk
  generalize inq r.2.1 1 12 = wd
  generalize inq r.1 1 5 = us
  generalize decide (r.2.2.1 = 0) = b0
  generalize hasB r.2.1 = hb
  generalize inq r.2.2.1 0 9 = ib
  generalize decide (r.2.2.2.2.1 = 0) = n0
  generalize hasN r.2.1 = hn
  generalize inq r.2.2.2.2.1 0 10000 = nn
  generalize same r.2.2.2.2.2.1 ((0 : Int), (0 : Int)) = v0
  generalize hasV r.2.1 = hv
  generalize decOk r.2.2.2.2.2.1 = vv
  generalize hasT r.2.1 = ht
  generalize inq r.2.2.2.1 1 4 = tt
  generalize decide (r.2.2.2.1 = 0) = t0'
  generalize decide (r.2.1 = 1) = k1
  generalize testsOk r.2.2.2.2.2.2 = ts
  generalize decide (List.length r.2.2.2.2.2.2 = 0) = ts0
  cases k1 <;> cases b0 <;> cases hb <;> cases n0 <;> cases hn <;> cases v0 <;> cases hv <;> cases ht <;> cases wd <;> cases us <;> first | rfl | (cases ib <;> first | rfl | (cases nn <;> first | rfl | (cases vv <;> first | rfl | (cases tt <;> first | rfl | (cases t0' <;> rfl))))))⟩
theorem s_ac : C_ac (fun x => okLen (List.length x.1.2.2.2.2.2.2) && inq x.2.1 0 1048576) (fun x => (szN (List.length x.1.2.2.2.2.2.2) x.2.1, ())) := S_ac s_a1 fun x hx => ⟨0, (ev_ac 0 x.1 x.2.1).trans (by
  have hx : (okLen (List.length x.1.2.2.2.2.2.2) && inq x.2.1 0 1048576) = true := hx
  rw [cl_eq hx]
  exact p_szPass _ _ (Qah.1 (Bool.and_eq_true_iff.1 hx).2).1)⟩
theorem s_as : C_as (fun x => decide (List.length x.1.2.2.2.2.2.2 <= 4294967296)) (fun x => (x.1, ())) := S_as s_ae s_ag fun x hx => ⟨0, (ev_as 0 x.1).trans (cl_eq hx)⟩
theorem Qbb (a b : MReq) : same a b = (same a.1 b.1 && (same a.2.1 b.2.1 && (same a.2.2.1 b.2.2.1 && (same a.2.2.2.1 b.2.2.2.1 && (same a.2.2.2.2.1 b.2.2.2.2.1 && (same a.2.2.2.2.2.1 b.2.2.2.2.2.1 && same a.2.2.2.2.2.2 b.2.2.2.2.2.2)))))) := by
  rw [show same a b = same (a.1, a.2.1, a.2.2.1, a.2.2.2.1, a.2.2.2.2.1, a.2.2.2.2.2.1, a.2.2.2.2.2.2) (b.1, b.2.1, b.2.2.1, b.2.2.2.1, b.2.2.2.2.1, b.2.2.2.2.2.1, b.2.2.2.2.2.2) from rfl, <- Qao, <- Qao, <- Qao, <- Qao, <- Qao, <- Qao]
theorem s_fp : C_fp (fun x => decide (List.length x.1.2.2.2.2.2.2 <= 4294967296)) (fun x => (same x.1 x.2.1, ())) := S_fp s_fb s_fd fun x hx => ⟨0, (ev_fp 0 x.1 x.2.1).trans (by
  obtain ⟨a, b, u⟩ := x
  change MReq at a
  change MReq at b
  have hx : decide (List.length a.2.2.2.2.2.2 <= 4294967296) = true := hx
  rw [Qbb a b]
  simp only [cl, hx, cond_true, Qar]
  cases same a.1 b.1 <;> cases same a.2.1 b.2.1 <;> cases same a.2.2.1 b.2.2.1 <;> cases same a.2.2.2.1 b.2.2.2.1 <;> cases same a.2.2.2.2.1 b.2.2.2.2.1 <;> cases same a.2.2.2.2.2.1 b.2.2.2.2.2.1 <;> cases same a.2.2.2.2.2.2 b.2.2.2.2.2.2 <;> rfl)⟩
/-- A request in the form of its kind. -/
def form8 (r : MReq) : MReq :=
  if r.2.1 = 1 then (r.1, r.2.1, 0, 0, 0, (0, 0), r.2.2.2.2.2.2) else if r.2.1 = 2 then (r.1, r.2.1, 0, 0, r.2.2.2.2.1, (0, 0), []) else if r.2.1 = 3 then (r.1, r.2.1, 0, 0, r.2.2.2.2.1, (0, 0), [])
  else if r.2.1 = 4 then (r.1, r.2.1, r.2.2.1, r.2.2.2.1, 0, r.2.2.2.2.2.1, []) else if r.2.1 = 6 then (r.1, r.2.1, r.2.2.1, r.2.2.2.1, 0, r.2.2.2.2.2.1, []) else if r.2.1 = 5 then (r.1, r.2.1, r.2.2.1, r.2.2.2.1, r.2.2.2.2.1, (0, 0), [])
  else if r.2.1 = 8 then (r.1, r.2.1, r.2.2.1, 0, r.2.2.2.2.1, (0, 0), []) else (r.1, r.2.1, r.2.2.1, 0, 0, (0, 0), [])
theorem Qaj {α : Type} {p : Prop} [Decidable p] {a b c : α} (hb : p -> a = c) (hb2 : ¬ p -> b = c) : (bif decide p then a else b) = c := by
  by_cases h : p
  · rw [decide_eq_true h]; exact hb h
  · rw [decide_eq_false h]; exact hb2 h
theorem s_bi : C_bi (fun _ => true) (fun x => (form8 x.1, ())) := S_bi fun x _ => ⟨0, (ev_bi 0 x.1).trans (by
  unfold form8
  refine Qaj (fun h => by rw [if_pos h]) fun h => ?_
  rw [if_neg h]
  refine Qaj (fun h => by rw [if_pos h]) fun h => ?_
  rw [if_neg h]
  refine Qaj (fun h => by rw [if_pos h]) fun h => ?_
  rw [if_neg h]
  refine Qaj (fun h => by rw [if_pos h]) fun h => ?_
  rw [if_neg h]
  refine Qaj (fun h => by rw [if_pos h]) fun h => ?_
  rw [if_neg h]
  refine Qaj (fun h => by rw [if_pos h]) fun h => ?_
  rw [if_neg h]
  refine Qaj (fun h => by rw [if_pos h]) fun h => ?_
  rw [if_neg h])⟩
theorem s_bj : C_bj (fun x => smA x.1.2.2.2.2.2.2) (fun x => (same x.1 x.2.1, ())) := S_bj fun x hx => by
  obtain ⟨a, b, u⟩ := x
  change MReq at a
  change MReq at b
  have hx : List.length a.2.2.2.2.2.2 <= 4294967296 := of_decide_eq_true hx
  have ev := fun k => ev_bj k a b
  show ∃ k, E_bj k (a, b, ()) = some (same a b, ())
  simp only [ev]
  rw [Qbb a b]
  by_cases hl : List.length a.2.2.2.2.2.2 = List.length b.2.2.2.2.2.2
  · have el : (List.length a.2.2.2.2.2.2 : Int) = (List.length b.2.2.2.2.2.2 : Int) := by omega
    rw [decide_eq_true el]
    have hs : (same a.2.2.2.2.2.2 b.2.2.2.2.2.2 && (same a.1 b.1 && (same a.2.1 b.2.1 && (same a.2.2.1 b.2.2.1 && (same a.2.2.2.1 b.2.2.2.1 && (same a.2.2.2.2.1 b.2.2.2.2.1 && same a.2.2.2.2.2.1 b.2.2.2.2.2.1)))))) = (same a.1 b.1 && (same a.2.1 b.2.1 && (same a.2.2.1 b.2.2.1 && (same a.2.2.2.1 b.2.2.2.1 && (same a.2.2.2.2.1 b.2.2.2.2.1 && (same a.2.2.2.2.2.1 b.2.2.2.2.2.1 && same a.2.2.2.2.2.2 b.2.2.2.2.2.2)))))) := by
      cases same a.2.2.2.2.2.2 b.2.2.2.2.2.2 <;> simp
    rw [<- hs]
    exact Qqp (α := MAsk) a.2.2.2.2.2.2 b.2.2.2.2.2.2 hl (same a.1 b.1 && (same a.2.1 b.2.1 && (same a.2.2.1 b.2.2.1 && (same a.2.2.2.1 b.2.2.2.1 && (same a.2.2.2.2.1 b.2.2.2.2.1 && same a.2.2.2.2.2.1 b.2.2.2.2.2.1))))) (fun k i => r_bj (a, b, ()) k pt0 (h0_bj a b (i : Int))) ⟨1, by
        rw [rd0_bj, Qab (Nat.le_refl _), Qjr]
        simp only [Qar]
        cases same a.1 b.1 <;> cases same a.2.1 b.2.1 <;> cases same a.2.2.1 b.2.2.1 <;> cases same a.2.2.2.1 b.2.2.2.1 <;> cases same a.2.2.2.2.1 b.2.2.2.2.1 <;> cases same a.2.2.2.2.2.1 b.2.2.2.2.2.1 <;> rfl⟩ (fun k i y z r r' hd hd' hi hi' => by
        rw [rd0_bj, Qac hi, Qac hi', Qad hi, Qaf (by omega), Qaa hd, Qaa hd', Qjs]
        cases same y z <;> rfl)
  · refine ⟨0, ?_⟩
    rw [decide_eq_false (by omega), Qqq hl]
    simp only [Bool.and_false]; rfl
/-- It is in the form just if what it does not have is nothing. -/
theorem Qre (r : MReq) : same r (form8 r) = ((decide (r.2.2.1 = 0) || hasB r.2.1 || (!inq r.2.1 1 12)) && (decide (r.2.2.2.2.1 = 0) || hasN r.2.1) && (same r.2.2.2.2.2.1 (0, 0) || hasV r.2.1) && (decide (r.2.2.2.1 = 0) || hasT r.2.1) && (decide (r.2.1 = 1) || decide (r.2.2.2.2.2.2.length = 0))) := by
  obtain ⟨u, k, b, t, n, v, l⟩ := r
  have hl : same l [] = decide (l.length = 0) := by
    cases l with
    | nil => rw [Qaw]; rfl
    | cons a r => rw [Qc0 (by simp)]; rfl
  have h0 : ∀ x : Int, same x 0 = decide (x = 0) := fun x => (Qar x 0).symm
  show same ((u, k, b, t, n, v, l) : MReq) (form8 (u, k, b, t, n, v, l)) = ((decide (b = 0) || hasB k || (!inq k 1 12)) && (decide (n = 0) || hasN k) && (same v (0, 0) || hasV k) && (decide (t = 0) || hasT k) && (decide (k = 1) || decide (l.length = 0)))
  cases hk : inq k 1 12
  · have h' : ¬ (1 <= k /\ k <= 12) := fun h2 => by rw [Qah.2 h2] at hk; cases hk
    have b2 : hasT k = false := by unfold hasT; refine Bool.eq_false_iff.2 fun h2 => ?_; have := Qah.1 h2; omega
    have b3 : hasN k = false := by unfold hasN; rw [decide_eq_false (by omega), decide_eq_false (by omega), decide_eq_false (by omega), decide_eq_false (by omega)]; rfl
    have b4 : hasV k = false := by unfold hasV; rw [decide_eq_false (by omega), decide_eq_false (by omega)]; rfl
    have e : form8 (u, k, b, t, n, v, l) = (u, k, b, 0, 0, (0, 0), []) := by
      unfold form8
      rw [if_neg (show ¬ k = 1 by omega), if_neg (show ¬ k = 2 by omega), if_neg (show ¬ k = 3 by omega), if_neg (show ¬ k = 4 by omega), if_neg (show ¬ k = 6 by omega), if_neg (show ¬ k = 5 by omega), if_neg (show ¬ k = 8 by omega)]
    rw [e, b2, b3, b4, decide_eq_false (show ¬ k = 1 by omega), Qbb]
    simp only [Qaw, h0, hl, Bool.true_and, Bool.not_false, Bool.or_true, Bool.or_false, Bool.false_or]
    cases decide (t = 0) <;> cases decide (n = 0) <;> cases same v (0, 0) <;> cases decide (l.length = 0) <;> rfl
  · rcases kinds hk with rfl | rfl | rfl | rfl | rfl | rfl | rfl | rfl | rfl | rfl | rfl | rfl
    · have e : form8 (u, 1, b, t, n, v, l) = (u, 1, 0, 0, 0, (0, 0), l) := rfl
      rw [e, Qbb]
      show (same u u && (same (1 : Int) 1 && (same b 0 && (same t 0 && (same n 0 && (same v (0, 0) && same l l)))))) = ((decide (b = 0) || false || (!true)) && (decide (n = 0) || false) && (same v (0, 0) || false) && (decide (t = 0) || false) && (true || decide (l.length = 0)))
      simp only [Qaw, h0, hl]
      cases decide (b = 0) <;> cases decide (t = 0) <;> cases decide (n = 0) <;> cases same v (0, 0) <;> cases decide (l.length = 0) <;> rfl
    · have e : form8 (u, 2, b, t, n, v, l) = (u, 2, 0, 0, n, (0, 0), []) := rfl
      rw [e, Qbb]
      show (same u u && (same (2 : Int) 2 && (same b 0 && (same t 0 && (same n n && (same v (0, 0) && same l [])))))) = ((decide (b = 0) || false || (!true)) && (decide (n = 0) || true) && (same v (0, 0) || false) && (decide (t = 0) || false) && (false || decide (l.length = 0)))
      simp only [Qaw, h0, hl]
      cases decide (b = 0) <;> cases decide (t = 0) <;> cases decide (n = 0) <;> cases same v (0, 0) <;> cases decide (l.length = 0) <;> rfl
    · have e : form8 (u, 3, b, t, n, v, l) = (u, 3, 0, 0, n, (0, 0), []) := rfl
      rw [e, Qbb]
      show (same u u && (same (3 : Int) 3 && (same b 0 && (same t 0 && (same n n && (same v (0, 0) && same l [])))))) = ((decide (b = 0) || false || (!true)) && (decide (n = 0) || true) && (same v (0, 0) || false) && (decide (t = 0) || false) && (false || decide (l.length = 0)))
      simp only [Qaw, h0, hl]
      cases decide (b = 0) <;> cases decide (t = 0) <;> cases decide (n = 0) <;> cases same v (0, 0) <;> cases decide (l.length = 0) <;> rfl
    · have e : form8 (u, 4, b, t, n, v, l) = (u, 4, b, t, 0, v, []) := rfl
      rw [e, Qbb]
      show (same u u && (same (4 : Int) 4 && (same b b && (same t t && (same n 0 && (same v v && same l [])))))) = ((decide (b = 0) || true || (!true)) && (decide (n = 0) || false) && (same v (0, 0) || true) && (decide (t = 0) || true) && (false || decide (l.length = 0)))
      simp only [Qaw, h0, hl]
      cases decide (b = 0) <;> cases decide (t = 0) <;> cases decide (n = 0) <;> cases same v (0, 0) <;> cases decide (l.length = 0) <;> rfl
    · have e : form8 (u, 5, b, t, n, v, l) = (u, 5, b, t, n, (0, 0), []) := rfl
      rw [e, Qbb]
      show (same u u && (same (5 : Int) 5 && (same b b && (same t t && (same n n && (same v (0, 0) && same l [])))))) = ((decide (b = 0) || true || (!true)) && (decide (n = 0) || true) && (same v (0, 0) || false) && (decide (t = 0) || true) && (false || decide (l.length = 0)))
      simp only [Qaw, h0, hl]
      cases decide (b = 0) <;> cases decide (t = 0) <;> cases decide (n = 0) <;> cases same v (0, 0) <;> cases decide (l.length = 0) <;> rfl
    · have e : form8 (u, 6, b, t, n, v, l) = (u, 6, b, t, 0, v, []) := rfl
      rw [e, Qbb]
      show (same u u && (same (6 : Int) 6 && (same b b && (same t t && (same n 0 && (same v v && same l [])))))) = ((decide (b = 0) || true || (!true)) && (decide (n = 0) || false) && (same v (0, 0) || true) && (decide (t = 0) || true) && (false || decide (l.length = 0)))
      simp only [Qaw, h0, hl]
      cases decide (b = 0) <;> cases decide (t = 0) <;> cases decide (n = 0) <;> cases same v (0, 0) <;> cases decide (l.length = 0) <;> rfl
    · have e : form8 (u, 7, b, t, n, v, l) = (u, 7, b, 0, 0, (0, 0), []) := rfl
      rw [e, Qbb]
      show (same u u && (same (7 : Int) 7 && (same b b && (same t 0 && (same n 0 && (same v (0, 0) && same l [])))))) = ((decide (b = 0) || true || (!true)) && (decide (n = 0) || false) && (same v (0, 0) || false) && (decide (t = 0) || false) && (false || decide (l.length = 0)))
      simp only [Qaw, h0, hl]
      cases decide (b = 0) <;> cases decide (t = 0) <;> cases decide (n = 0) <;> cases same v (0, 0) <;> cases decide (l.length = 0) <;> rfl
    · have e : form8 (u, 8, b, t, n, v, l) = (u, 8, b, 0, n, (0, 0), []) := rfl
      rw [e, Qbb]
      show (same u u && (same (8 : Int) 8 && (same b b && (same t 0 && (same n n && (same v (0, 0) && same l [])))))) = ((decide (b = 0) || true || (!true)) && (decide (n = 0) || true) && (same v (0, 0) || false) && (decide (t = 0) || false) && (false || decide (l.length = 0)))
      simp only [Qaw, h0, hl]
      cases decide (b = 0) <;> cases decide (t = 0) <;> cases decide (n = 0) <;> cases same v (0, 0) <;> cases decide (l.length = 0) <;> rfl
    · have e : form8 (u, 9, b, t, n, v, l) = (u, 9, b, 0, 0, (0, 0), []) := rfl
      rw [e, Qbb]
      show (same u u && (same (9 : Int) 9 && (same b b && (same t 0 && (same n 0 && (same v (0, 0) && same l [])))))) = ((decide (b = 0) || true || (!true)) && (decide (n = 0) || false) && (same v (0, 0) || false) && (decide (t = 0) || false) && (false || decide (l.length = 0)))
      simp only [Qaw, h0, hl]
      cases decide (b = 0) <;> cases decide (t = 0) <;> cases decide (n = 0) <;> cases same v (0, 0) <;> cases decide (l.length = 0) <;> rfl
    · have e : form8 (u, 10, b, t, n, v, l) = (u, 10, b, 0, 0, (0, 0), []) := rfl
      rw [e, Qbb]
      show (same u u && (same (10 : Int) 10 && (same b b && (same t 0 && (same n 0 && (same v (0, 0) && same l [])))))) = ((decide (b = 0) || true || (!true)) && (decide (n = 0) || false) && (same v (0, 0) || false) && (decide (t = 0) || false) && (false || decide (l.length = 0)))
      simp only [Qaw, h0, hl]
      cases decide (b = 0) <;> cases decide (t = 0) <;> cases decide (n = 0) <;> cases same v (0, 0) <;> cases decide (l.length = 0) <;> rfl
    · have e : form8 (u, 11, b, t, n, v, l) = (u, 11, b, 0, 0, (0, 0), []) := rfl
      rw [e, Qbb]
      show (same u u && (same (11 : Int) 11 && (same b b && (same t 0 && (same n 0 && (same v (0, 0) && same l [])))))) = ((decide (b = 0) || true || (!true)) && (decide (n = 0) || false) && (same v (0, 0) || false) && (decide (t = 0) || false) && (false || decide (l.length = 0)))
      simp only [Qaw, h0, hl]
      cases decide (b = 0) <;> cases decide (t = 0) <;> cases decide (n = 0) <;> cases same v (0, 0) <;> cases decide (l.length = 0) <;> rfl
    · have e : form8 (u, 12, b, t, n, v, l) = (u, 12, b, 0, 0, (0, 0), []) := rfl
      rw [e, Qbb]
      show (same u u && (same (12 : Int) 12 && (same b b && (same t 0 && (same n 0 && (same v (0, 0) && same l [])))))) = ((decide (b = 0) || true || (!true)) && (decide (n = 0) || false) && (same v (0, 0) || false) && (decide (t = 0) || false) && (false || decide (l.length = 0)))
      simp only [Qaw, h0, hl]
      cases decide (b = 0) <;> cases decide (t = 0) <;> cases decide (n = 0) <;> cases same v (0, 0) <;> cases decide (l.length = 0) <;> rfl
theorem Qrf (k : Int) : (decide (k = 4) || decide (k = 5) || decide (k = 6)) = hasT k := by
  unfold hasT
  rw [Bool.eq_iff_iff, Qah]
  simp only [Bool.or_eq_true, decide_eq_true_eq]
  omega
theorem Qrg (us wd sm ib nn vv k4 k5 k6 e1 it : Bool) : ((bif (bif us then false else true) then (some (false, ())) else (bif (bif wd then false else true) then (some (false, ())) else (bif (bif sm then false else true) then (some (false, ())) else (bif (bif ib then false else true) then (some (false, ())) else (bif (bif nn then false else true) then (some (false, ())) else (bif (bif vv then false else true) then (some (false, ())) else (bif k4 then (bif e1 then (some ((true == it), ())) else (some (false, ()))) else (bif k5 then (bif e1 then (some ((true == it), ())) else (some (false, ()))) else (bif e1 then (some ((k6 == it), ())) else (some (false, ()))))))))))) : Option (Bool × Unit)) = some (us && (wd && (sm && (ib && (nn && (vv && (e1 && ((k4 || k5 || k6) == it))))))), ()) := by
  cases us <;> cases wd <;> cases sm <;> cases ib <;> cases nn <;> cases vv <;> first | rfl | (cases k4 <;> cases k5 <;> cases k6 <;> cases e1 <;> cases it <;> rfl)
theorem Qrh (r : MReq) : (inq r.1 1 5 && (inq r.2.1 1 12 && (same r (form8 r) && (inq r.2.2.1 0 9 && (inq r.2.2.2.2.1 0 10000 && (decOk r.2.2.2.2.2.1 && ((decide (r.2.1 = 1) == testsOk r.2.2.2.2.2.2) && (hasT r.2.1 == inq r.2.2.2.1 1 4)))))))) = reqOk r := by
  rw [Qre]
  unfold reqOk
  have hb : decide (r.2.2.1 = 0) = true -> inq r.2.2.1 0 9 = true := fun h => Qah.2 (by have := of_decide_eq_true h; omega)
  have hn : decide (r.2.2.2.2.1 = 0) = true -> inq r.2.2.2.2.1 0 10000 = true := fun h => Qah.2 (by have := of_decide_eq_true h; omega)
  have hv : same r.2.2.2.2.2.1 (0, 0) = true -> decOk r.2.2.2.2.2.1 = true := fun h => by rw [Qax.1 h]; rfl
  have ht : decide (r.2.2.2.1 = 0) = true -> inq r.2.2.2.1 1 4 = false := fun h => Bool.eq_false_iff.2 fun h2 => by have := Qah.1 h2; have := of_decide_eq_true h; omega
  have hl : decide (r.2.2.2.2.2.2.length = 0) = true -> testsOk r.2.2.2.2.2.2 = false := fun h => Bool.eq_false_iff.2 fun h2 => by have := Qd2 h2; have := of_decide_eq_true h; omega
  have g1 : ∀ b h i : Bool, (b = true -> i = true) -> (b || (h && i)) = ((b || h) && i) := by intro b h i hi; cases b <;> cases h <;> cases i <;> first | rfl | (have := hi rfl; cases this)
  have g2 : ∀ t h i : Bool, (t = true -> i = false) -> (bif h then i else t) = ((t || h) && (h == i)) := by intro t h i hi; cases t <;> cases h <;> cases i <;> first | rfl | (have := hi rfl; cases this)
  have g3 : ∀ k t l : Bool, (l = true -> t = false) -> (bif k then t else l) = ((k || l) && (k == t)) := by intro t h i hi; cases t <;> cases h <;> cases i <;> first | rfl | (have := hi rfl; cases this)
  rw [g1 _ _ _ hb, g1 _ _ _ hn, g1 _ _ _ hv, g2 _ _ _ ht, g3 _ _ _ hl]
  cases inq r.2.1 1 12
  · simp
  · simp only [Bool.not_true, Bool.or_false]
    generalize (decide (r.2.2.1 = 0) || hasB r.2.1) = a1
    generalize (decide (r.2.2.2.2.1 = 0) || hasN r.2.1) = a2
    generalize (same r.2.2.2.2.2.1 (0, 0) || hasV r.2.1) = a3
    generalize (decide (r.2.2.2.1 = 0) || hasT r.2.1) = a4
    generalize (decide (r.2.1 = 1) || decide (r.2.2.2.2.2.2.length = 0)) = a5
    generalize (decide (r.2.1 = 1) == testsOk r.2.2.2.2.2.2) = a6
    generalize (hasT r.2.1 == inq r.2.2.2.1 1 4) = a7
    ac_rfl
theorem s_bk : C_bk (fun x => smA x.1.2.2.2.2.2.2) (fun x => (reqOk x.1, ())) := S_bk s_at s_bi s_bj s_av s_b0 fun x hx => ⟨0, (ev_bk 0 x.1).trans (by
  obtain ⟨r, u⟩ := x
  change MReq at r
  have hx : smA r.2.2.2.2.2.2 = true := hx
  rw [show reqOk (r, u).1 = reqOk r from rfl, <- Qrh r, <- Qrf]
  simp only [cl, hx, cond_true]
  exact Qrg _ _ _ _ _ _ _ _ _ _ _)⟩

end Go.Proofs.YtjmohfahchamaaaGreat

set_option linter.unusedVariables false
set_option linter.unusedSimpArgs false
namespace Go.Proofs.YtjmohfahchamaaaGreat
open Go.Vm
theorem s_b9 : C_b9 (fun _ => true) (fun x => (mixW x.1 x.2.1, ())) := S_b9 fun x _ => ⟨0, ev_b9 0 x.1 x.2.1⟩
theorem s_ba : C_ba (fun x => smB x.1) (fun x => (batMark x.1, ())) := S_ba s_b9 fun x hx => by
  obtain ⟨b, u⟩ := x
  change MBat at b
  have hx : smB b = true := hx
  obtain ⟨h1, h2, h3, h4⟩ := Qba.1 hx
  refine WithFuel.eq ?_
  show WithFuel (fun k => E_ba (fun x => (mixW x.1 x.2.1, ())) k (b, ())) _
  have ev := fun k => ev_ba (g_b9 := fun x => (mixW x.1 x.2.1, ())) k b
  simp only [ev, Qc2 one_r]
  refine Qdi b.2.2.1 (fun _ m t => markTst m t) mkR (fun k i m => r_ba (fun x => (mixW x.1 x.2.1, ())) (b, ()) k pt0 (h0_ba b m (i : Int))) _ (fun i s x hs => Qgv hs) (mix 1 b.1) (mix_r one_r) (fun hr => ?_) (fun i t r m hd hi hm hk => ?_)
  · rw [Qf7] at hr ⊢
    have hdev := Qdi (P := fun v => v = (batMark b, ())) b.2.2.2.2.2 (fun i m d => markDev m i d) mkR (fun k i m => r_ba (fun x => (mixW x.1 x.2.1, ())) (b, ()) k pt2 (h2_ba b m (i : Int))) (fun i s x hs => Qgw hs) (markTsts (mix 1 b.1) b.2.2.1) hr (fun hr => ?_) (fun i d r m hd hi hm hk => ?_)
    · obtain ⟨k, hk⟩ := hdev
      refine ⟨k + 1, ?_⟩
      dsimp only
      rw [rd0_ba, Qab (Nat.le_refl _)]
      exact hk
    · rw [Qf8]
      refine Qkm 1 ?_
      dsimp only
      rw [rd2_ba, Qab (Nat.le_refl _)]; rfl
    · obtain ⟨k, v, hk, hv⟩ := hk
      refine ⟨k + 1, v, ?_, hv⟩
      dsimp only
      rw [rd2_ba, Qac hi, Qad hi, Qaf (by omega), Qaa hd]
      simp only [Qc2 hm, Qc2 (mix_r hm), cond_true]
      cases d
      · exact hk
      · exact hk
  · have hmore := Qdi (P := fun v => v = (batMark b, ())) t.2.2.2.2 (fun _ m (v : MDec) => mix (mix m v.1) v.2) mkR (fun k j m => r_ba (fun x => (mixW x.1 x.2.1, ())) (b, ()) k pt4 (h1_ba b m (i : Int) (j : Int) t)) (fun i s x hs => mix_r (mix_r hs)) (markHead m t) (Qf0 hm) (fun hr => ?_) (fun j v r' m' hd' hj hm' hk' => ?_)
    · obtain ⟨k, v, hk, hv⟩ := hmore
      refine ⟨k + 1, v, ?_, hv⟩
      dsimp only
      rw [rd0_ba, Qac hi, Qad hi, Qaa hd]
      simp only [Qc2 hm, Qc2 (mix_r hm), Qc2 (mix_r (mix_r hm)), Qc2 (mix_r (mix_r (mix_r hm))), cond_true]
      exact hk
    · rw [Qfi]
      obtain ⟨k, v, hk, hv⟩ := hk
      refine ⟨k + 1, v, ?_, hv⟩
      dsimp only
      rw [rd1_ba, Qab (Nat.le_refl _), Qaf (i := i) (by omega)]
      exact hk
    · obtain ⟨k, v', hk, hv⟩ := hk'
      refine ⟨k + 1, v', ?_, hv⟩
      have hlt : List.length t.2.2.2.2 <= 4294967296 := h2 t (Qas hd)
      dsimp only
      rw [rd1_ba, Qac hj, Qad hj, Qaf (i := j) (by omega), Qaa hd']
      simp only [Qc2 hm', Qc2 (mix_r hm'), cond_true]
      exact hk
theorem s_bb : C_bb (fun x => smB x.1) (fun x => (batSigned x.1 x.2.1 x.2.2.1, ())) := S_bb s_ba fun x hx => ⟨List.length x.1.2.2.2.2.1 + 1, (ev_bb _ x.1 x.2.1 x.2.2.1).trans (by
  obtain ⟨b, role, but, u⟩ := x
  change MBat at b
  have hx : smB b = true := hx
  have h3 := (Qba.1 hx).2.2.1
  have := Qaq (σ := Unit) b.2.2.2.2.1 (fun k i _ => r_bb (fun x => (batMark x.1, ())) (fun x => smB x.1) (b, role, but, ()) k pt1 (h0_bb b role but (i : Int))) (fun r i _ => (signedBy (batMark b) role but r, ())) (fun _ _ => True) (fun k s _ => by
    rw [rd0_bb, Qab (Nat.le_refl _)]; rfl) (fun k i y r s hd hi _ => by
    have h0i : decide ((0 : Int) <= (i : Int)) = true := decide_eq_true (by omega)
    rw [rd0_bb, Qaf (by omega), Qaa hd]
    simp only [cl, hx, h0i, Qad hi, cond_true]
    have e : signedBy (batMark b) role but (y :: r) = bif decide (y.2.1 = role) && (decide (y.2.2 = batMark b) && !decide (y.1 = but)) then y.1 else signedBy (batMark b) role but r := rfl
    rw [e]
    cases decide (y.2.1 = role)
    · exact .inr ⟨(), trivial, rfl, rfl⟩
    · cases decide (y.1 = but)
      · cases decide (y.2.2 = batMark b)
        · exact .inr ⟨(), trivial, rfl, rfl⟩
        · exact .inl rfl
      · cases decide (y.2.2 = batMark b)
        · exact .inr ⟨(), trivial, rfl, rfl⟩
        · exact .inr ⟨(), trivial, rfl, rfl⟩) b.2.2.2.2.1.length 0 () (by omega) trivial
  rw [List.drop_zero] at this
  exact this)⟩
theorem s_bc : C_bc (fun x => smB x.1 && sigsOk x.1) (fun x => (hands x.1, ())) := S_bc s_ba s_bb fun x hx => by
  obtain ⟨b, u⟩ := x
  change MBat at b
  obtain ⟨hx, hs⟩ := Bool.and_eq_true_iff.1 hx
  have hx : smB b = true := hx
  have hs : sigsOk b = true := hs
  have h3 := (Qba.1 hx).2.2.1
  have go : ∀ (m : Nat) (u : Int), 1 <= u -> u + m = 6 -> ∃ k, r_bc (fun x => (batMark x.1, ())) (fun x => smB x.1) (fun x => (batSigned x.1 x.2.1 x.2.2.1, ())) (fun x => smB x.1) (b, ()) k pt1 (h0_bc b u) = some (b.2.2.2.2.1.any (fun s => decide (u <= s.1) && (decide (s.1 <= 5) && hand1 b s)), ()) := by
    intro m
    induction m with
    | zero =>
      intro u h1 h
      have : u = 6 := by omega
      subst this
      refine ⟨1, ?_⟩
      rw [rd0_bc, Qn6]; rfl
    | succ m ih =>
      intro u h1 h
      have hw : w64 (u + 1) = u + 1 := Qae (by omega) (by omega)
      obtain ⟨k, hk⟩ := ih (u + 1) (by omega) (by omega)
      obtain ⟨k, hk⟩ := Qpq (α := MSig) b.2.2.2.2.1 (fun s => decide (s.1 = u) && hand1 b s) _ (fun k i => r_bc (fun x => (batMark x.1, ())) (fun x => smB x.1) (fun x => (batSigned x.1 x.2.1 x.2.2.1, ())) (fun x => smB x.1) (b, ()) k pt3 (h1_bc b u (i : Int))) ⟨k + 1, by rw [rd1_bc, Qab (Nat.le_refl _), hw]; exact hk⟩ (fun k i s r hd hi => by
        rw [rd1_bc, Qac hi, Qad hi, Qaf (by omega), Qaa hd]
        simp only [cl, hx, cond_true]
        unfold hand1
        by_cases e : s.1 = u
        · subst e
          rw [decide_eq_true rfl]
          cases decide (s.2.1 = 2)
          · rfl
          · cases decide (s.2.2 = batMark b)
            · rfl
            · cases decide (0 < batSigned b 3 s.1) <;> rfl
        · rw [decide_eq_false e]; rfl)
      refine ⟨k + 1, ?_⟩
      rw [rd0_bc, decide_eq_true (show u <= 5 by omega), <- Qn5 b (show u <= 5 by omega)]
      exact hk
  obtain ⟨k, hk⟩ := go 5 1 (Int.le_refl _) rfl
  exact ⟨k, (ev_bc k b).trans (by rw [hk, <- Qn4 hs])⟩
theorem s_bd : C_bd (fun x => smB x.1 && sigsOk x.1) (fun x => (gate x.1, ())) := S_bd s_bc fun x hx => by
  obtain ⟨b, u⟩ := x
  change MBat at b
  have hx : (smB b && sigsOk b) = true := hx
  obtain ⟨h1, h2, h3, h4⟩ := Qba.1 (Bool.and_eq_true_iff.1 hx).1
  obtain ⟨k, hk⟩ := Qdj (α := Bool) b.2.2.2.2.2 (!·) (hands b) (fun k i => r_bd (fun x => (hands x.1, ())) (fun x => smB x.1 && sigsOk x.1) (b, ()) k pt0 (h1_bd b (i : Int))) (fun _ => ⟨1, by
    rw [rd1_bd, Qab (Nat.le_refl _), cl_eq hx]; rfl⟩) (fun k i d r hd hi => by
    rw [rd1_bd, Qac hi, Qad hi, Qaf (by omega), Qaa hd]
    cases d <;> rfl)
  obtain ⟨k, hk⟩ := Qdj (α := MTst) b.2.2.1 passed _ (fun k i => r_bd (fun x => (hands x.1, ())) (fun x => smB x.1 && sigsOk x.1) (b, ()) k pt1 (h0_bd b (i : Int))) (fun _ => ⟨k + 1, by
    rw [rd0_bd, Qab (Nat.le_refl _)]; exact hk⟩) (fun k i t r hd hi => by
    rw [rd0_bd, Qac hi, Qad hi, Qaf (by omega), Qaa hd]
    unfold passed
    cases decide (t.2.1 = 3) <;> rfl)
  refine ⟨k, (ev_bd k b).trans (hk.trans ?_)⟩
  unfold gate shutAll
  rw [Bool.and_assoc]
theorem s_be : C_be (fun x => smB x.1) (fun x => (batOk x.1, ())) := S_be s_at s_b8 s_bd fun x hx => by
  obtain ⟨b, u⟩ := x
  change MBat at b
  have hx : smB b = true := hx
  obtain ⟨h1, h2, h3, h4⟩ := Qba.1 hx
  have key : ∃ k, r_be (fun x => (inq x.1 x.2.1 x.2.2.1, ())) (fun x => (tstOk x.1, ())) (fun x => (gate x.1, ())) (fun x => smB x.1 && sigsOk x.1) (b, ()) k pt0 (h0_be b (0 : Int)) =
      some (riseL tstOk (fun t => t.1.1) none b.2.2.1 && (b.2.2.2.2.1.all sigOk && (!freed b.2.2.2.1 || gate b)), ()) := by
    refine Qkn tstOk (fun t : MTst => t.1.1) b.2.2.1 _ (fun k i => r_be (fun x => (inq x.1 x.2.1 x.2.2.1, ())) (fun x => (tstOk x.1, ())) (fun x => (gate x.1, ())) (fun x => smB x.1 && sigsOk x.1) (b, ()) k pt0 (h0_be b (i : Int))) (fun _ => ?_) (fun k i t r hd hi => ?_)
    · obtain ⟨k, hk⟩ := Qdj (α := MSig) b.2.2.2.2.1 sigOk (!freed b.2.2.2.1 || gate b) (fun k i => r_be (fun x => (inq x.1 x.2.1 x.2.2.1, ())) (fun x => (tstOk x.1, ())) (fun x => (gate x.1, ())) (fun x => smB x.1 && sigsOk x.1) (b, ()) k pt2 (h1_be b (i : Int))) (fun hs => ⟨1, by
        have hp : (smB b && sigsOk b) = true := by rw [hx]; exact hs
        rw [rd1_be, Qab (Nat.le_refl _)]
        simp only [cl, hp, cond_true, cond_false]
        unfold freed
        cases decide (b.2.2.2.1 = 2) <;> cases decide (b.2.2.2.1 = 4) <;> rfl⟩) (fun k i s r hd hi => by
        rw [rd1_be, Qac hi, Qad hi, Qaf (by omega), Qaa hd]
        unfold sigOk signs
        simp only [cond_true]
        cases inq s.1 1 5
        · rfl
        · cases decide (s.2.1 = 2)
          · cases decide (s.2.1 = 3)
            · rfl
            · cases inq s.2.2 0 999982 <;> rfl
          · cases inq s.2.2 0 999982 <;> rfl)
      exact ⟨k + 1, by rw [rd0_be, Qab (Nat.le_refl _)]; exact hk⟩
    · rw [rd0_be, Qac hi, Qad hi, Qaf (by omega)]
      exact Qko tstOk (fun t : MTst => t.1.1) h1 hd hi _ (fun j => rdL (e := S_TstTest) b.2.2.1 j) (fun j hj => Qg4 j hj)
  obtain ⟨k, hk⟩ := key
  refine ⟨k, (ev_be k b).trans ?_⟩
  have d1 : decide (b.2.2.2.2.1.length <= 6) = !decide ((6 : Int) < (List.length b.2.2.2.2.1 : Int)) := by
    by_cases h : b.2.2.2.2.1.length <= 6
    · rw [decide_eq_true h, decide_eq_false (by omega)]; rfl
    · rw [decide_eq_false h, decide_eq_true (by omega)]; rfl
  have d2 : decide (b.2.2.2.2.2.length <= 3) = !decide ((3 : Int) < (List.length b.2.2.2.2.2 : Int)) := by
    by_cases h : b.2.2.2.2.2.length <= 3
    · rw [decide_eq_true h, decide_eq_false (by omega)]; rfl
    · rw [decide_eq_false h, decide_eq_true (by omega)]; rfl
  show _ = some (batOk b, ())
  unfold batOk batOkA tstsOk
  rw [d1, d2]
  simp only [hk]
  cases inq b.1 0 5
  · rfl
  · cases inq b.2.1 1 10000
    · rfl
    · cases inq (List.length b.2.2.1 : Int) 1 4
      · rfl
      · cases inq b.2.2.2.1 1 4
        · rfl
        · cases decide ((6 : Int) < (List.length b.2.2.2.2.1 : Int))
          · cases decide ((3 : Int) < (List.length b.2.2.2.2.2 : Int))
            · simp only [Bool.true_and, Bool.and_true, Bool.and_assoc, Bool.not_false]; rfl
            · simp only [Bool.true_and, Bool.and_true, Bool.and_false, Bool.false_and, Bool.not_true]; rfl
          · simp only [Bool.true_and, Bool.and_true, Bool.and_false, Bool.false_and, Bool.not_true]; rfl
theorem s_bn : C_bn (fun x => smB x.1) (fun x => (x.1, ())) := S_bn s_bm fun x hx => ⟨List.length x.1.2.2.1 + 1, (ev_bn _ x.1).trans (by
  obtain ⟨b, u⟩ := x
  change MBat at b
  have hx : smB b = true := hx
  obtain ⟨h1, h2, h3, h4⟩ := Qba.1 hx
  rw [Qau (by show 0 + List.length b.2.2.2.2.1 <= _; omega), Qau (by show 0 + List.length b.2.2.2.2.2 <= _; omega)]
  have := Qaq (σ := List MTst) b.2.2.1 (fun f i out => r_bn (fun x => (x.1, ())) (fun x => smT x.1) (b, ()) f pt0 (h0_bn b (i : Int) (0 : Int) (0 : Int) (0 : Int) [] [] [] out (List.append [] b.2.2.2.2.1) (List.append [] b.2.2.2.2.2))) (fun r i out => ((b.1, b.2.1, out ++ r, b.2.2.2.1, b.2.2.2.2.1, b.2.2.2.2.2), ())) (fun i out => out.length = i) (fun f s hs => by
    rw [rd0_bn, Qab (Nat.le_refl _), List.append_nil]; rfl) (fun f i y r s hd hi hs => by
    have hp : smT y = true := decide_eq_true (h2 y (Qas hd))
    refine .inr ⟨s ++ [y], by rw [List.length_append]; show s.length + 1 = i + 1; omega, ?_, by simp⟩
    rw [rd0_bn, Qac hi, Qad hi, Qaf (by omega), Qaa hd]
    simp only [cl, hp, cond_true]
    rw [Qau (by show s.length + 1 <= _; omega)]; rfl) b.2.2.1.length 0 [] (by omega) rfl
  rw [List.drop_zero, List.nil_append] at this
  exact this)⟩
theorem s_e6 : C_e6 (fun x => decide (List.length x.1 <= 4294967296)) (fun x => (x.1, ())) := S_e6 fun x hx => ⟨0, (ev_e6 0 x.1).trans (p_clone (α := MSig) x.1 (of_decide_eq_true hx))⟩
theorem s_e7 : C_e7 (fun x => decide (List.length x.1 <= 4294967296)) (fun x => (x.1, ())) := S_e7 fun x hx => ⟨0, (ev_e7 0 x.1).trans (p_clone (α := Bool) x.1 (of_decide_eq_true hx))⟩
theorem s_e8 : C_e8 (fun x => smB x.1) (fun x => (x.1, ())) := S_e8 s_e5 s_e6 s_e7 fun x hx => ⟨List.length x.1.2.2.1 + 1, (ev_e8 _ x.1).trans (by
  obtain ⟨b, u⟩ := x
  change MBat at b
  have hx : smB b = true := hx
  obtain ⟨h1, h2, h3, h4⟩ := Qba.1 hx
  have h3' : decide (List.length b.2.2.2.2.1 <= 4294967296) = true := decide_eq_true h3
  have h4' : decide (List.length b.2.2.2.2.2 <= 4294967296) = true := decide_eq_true h4
  have := Qaq (σ := List MTst) b.2.2.1 (fun f i out => r_e8 (fun x => (x.1, ())) (fun x => smT x.1) (fun x => (x.1, ())) (fun x => decide (List.length x.1 <= 4294967296)) (fun x => (x.1, ())) (fun x => decide (List.length x.1 <= 4294967296)) (b, ()) f pt0 (h0_e8 b (List.length b.2.2.1 : Int) (i : Int) (0 : Int) (0 : Int) (0 : Int) [] [] [] out)) (fun r i out => ((b.1, b.2.1, out ++ r, b.2.2.2.1, b.2.2.2.2.1, b.2.2.2.2.2), ())) (fun i out => out.length = i) (fun f s hs => by
    rw [rd0_e8, Qab (Nat.le_refl _), List.append_nil]
    simp only [cl, h3', h4', cond_true, cond_false]) (fun f i y r s hd hi hs => by
    have hp : smT y = true := decide_eq_true (h2 y (Qas hd))
    refine .inr ⟨s ++ [y], by rw [List.length_append]; show s.length + 1 = i + 1; omega, ?_, by simp⟩
    rw [rd0_e8, Qac hi, Qad hi, Qaf (by omega), Qaa hd]
    simp only [cl, hp, cond_true]
    rw [Qau (by show s.length + 1 <= _; omega)]; rfl) b.2.2.1.length 0 [] (by omega) rfl
  rw [List.drop_zero, List.nil_append] at this
  exact this)⟩
def signB (b : MBat) (u r : Int) : Bool := inq u 1 5 && (signs r && !decide (b.2.2.2.2.1.length = 6))
def withSig (b : MBat) (s : MSig) : MBat := (b.1, b.2.1, b.2.2.1, b.2.2.2.1, b.2.2.2.2.1 ++ [s], b.2.2.2.2.2)
theorem Qpx (b : MBat) : decide ((List.length b.2.2.2.2.1 : Int) = (6 : Int)) = decide (b.2.2.2.2.1.length = 6) := by
  by_cases h : b.2.2.2.2.1.length = 6
  · rw [decide_eq_true h, decide_eq_true (by omega)]
  · rw [decide_eq_false h, decide_eq_false (by omega)]
theorem Qi6 (b : MBat) (u r : Int) : batSign b u r = bif isOpen b && signB b u r then (withSig b (u, r, batMark b), true) else (b, false) := rfl
theorem s_f3 : C_f3 (fun x => decide (List.length x.1.2.2.2.2.1 <= 6) && smB x.2.2.2.1) (fun x => bif signB x.1 x.2.1 x.2.2.1 then (true, withSig x.1 (x.2.1, x.2.2.1, batMark x.2.2.2.1), ()) else (false, x.1, ())) := S_f3 s_d0 s_d1 s_dc fun x hx => ⟨0, (ev_f3 0 x.1 x.2.1 x.2.2.1 x.2.2.2.1).trans (by
  obtain ⟨o, u, r, b, z⟩ := x
  change MBat at o
  change MBat at b
  obtain ⟨h1, h2⟩ := Bool.and_eq_true_iff.1 hx
  have h1 : List.length o.2.2.2.2.1 <= 6 := of_decide_eq_true h1
  have h2 : smB b = true := h2
  have hf : fitL o.2.2.2.2.1 [((u, (r, batMark b)) : MSig)] = true := Qau (by show o.2.2.2.2.1.length + 1 <= _; omega)
  simp only [cl, h2, Qpx o, cond_true]
  unfold signB
  cases inq u 1 5
  · rfl
  · cases signs r
    · rfl
    · cases decide (o.2.2.2.2.1.length = 6)
      · exact (congrArg (fun c => bif c then _ else none) hf).trans rfl
      · rfl)⟩
theorem p_open {β : Type} (ok st : Bool) (A B : β) : (bif (bif ok then false else true) then B else (bif (bif st then false else true) then B else A)) = bif ok && st then A else B := by cases ok <;> cases st <;> rfl
theorem Ql9 {b : MBat} (h : isOpen b = true) : b.2.2.2.2.1.length <= 6 := (Qa2.1 (Qf2.1 h).1).1.2.2.2.2.2.1
theorem Qi7 {b : MBat} (h : isOpen b = true) : b.2.2.2.2.2.length <= 3 := (Qa2.1 (Qf2.1 h).1).1.2.2.2.2.2.2.2
theorem s_f4 : C_f4 (fun x => smB x.1 && same x.2.1.2.2.1 x.1) (fun x => ((batSign x.1 x.2.1.1 x.2.1.2.1).1, (batSign x.1 x.2.1.1 x.2.1.2.1).2, ())) := S_f4 s_e8 s_di s_f3 fun x hx => ⟨0, (ev_f4 0 x.1 x.2.1).trans (by
  obtain ⟨b, ⟨u, r, b', z⟩, z2⟩ := x
  change MBat at b
  change MBat at b'
  obtain ⟨h1, h2⟩ := Bool.and_eq_true_iff.1 hx
  have h1 : smB b = true := h1
  have h2 : b' = b := Qax.1 h2
  subst h2
  simp only [cl, h1, cond_true]
  rw [p_open]
  rw [Qi6]
  show (bif isOpen b' then _ else _) = _
  cases ho : isOpen b'
  · rfl
  · have h6 : decide (List.length b'.2.2.2.2.1 <= 6) = true := decide_eq_true (Ql9 ho)
    simp only [h6, Bool.and_self, Bool.true_and, cond_true]
    cases signB b' u r <;> rfl)⟩
theorem s_f5 : C_f5 (fun x => smB x.1) (fun x => ((batSign x.1 x.2.1 x.2.2.1).1, (batSign x.1 x.2.1 x.2.2.1).2, ())) := S_f5 s_f4 fun x hx => ⟨0, (ev_f5 0 x.1 x.2.1 x.2.2.1).trans (cl_eq (by
  have hx : smB x.1 = true := hx
  show (smB x.1 && same x.1 x.1) = true
  rw [hx, Qaw]; rfl))⟩
theorem s_c3 : C_c3 (fun x => smB x.1) (fun x => ((batSign x.1 x.2.1 x.2.2.1).1, (batSign x.1 x.2.1 x.2.2.1).2, ())) := S_c3 s_bn s_be s_at s_ba fun x hx => ⟨0, (ev_c3 0 x.1 x.2.1 x.2.2.1).trans (by
  obtain ⟨b, u, r, z⟩ := x
  change MBat at b
  have hx : smB b = true := hx
  simp only [cl, hx, Qpx b, cond_true]
  rw [p_open]
  rw [Qi6]
  show (bif isOpen b then _ else _) = _
  cases ho : isOpen b
  · rfl
  · have h6 := Ql9 ho
    have hf : fitL b.2.2.2.2.1 [((u, (r, batMark b)) : MSig)] = true := Qau (by show b.2.2.2.2.1.length + 1 <= _; omega)
    simp only [hf, cond_true, Bool.true_and]
    unfold signB signs
    cases inq u 1 5
    · rfl
    · cases decide (r = 2)
      · cases decide (r = 3)
        · rfl
        · cases decide (b.2.2.2.2.1.length = 6) <;> rfl
      · cases decide (b.2.2.2.2.1.length = 6) <;> rfl)⟩
theorem s_f6 : C_f6 (fun x => smB x.1) (fun x => ((batMove x.1 x.2.1).1, (batMove x.1 x.2.1).2, ())) := S_f6 s_e8 s_dh s_di fun x hx => ⟨0, (ev_f6 0 x.1 x.2.1).trans (by
  obtain ⟨b, s, z⟩ := x
  change MBat at b
  have hx : smB b = true := hx
  simp only [cl, hx, cond_true]
  show _ = some ((batMove b s).1, (batMove b s).2, ())
  unfold batMove
  cases decide (b.2.2.2.1 = 1) <;> cases decide (s = 3) <;> cases decide (s = 2) <;> cases gate b <;> cases decide (b.2.2.2.1 = 2) <;> cases decide (s = 4) <;> cases batOk b <;> rfl)⟩
theorem s_c4 : C_c4 (fun x => smB x.1) (fun x => ((batMove x.1 x.2.1).1, (batMove x.1 x.2.1).2, ())) := S_c4 s_bn s_be s_bd fun x hx => ⟨0, (ev_c4 0 x.1 x.2.1).trans (by
  obtain ⟨b, s, z⟩ := x
  change MBat at b
  have hx : smB b = true := hx
  simp only [cl, hx, cond_true]
  show _ = some ((batMove b s).1, (batMove b s).2, ())
  unfold batMove
  cases hb : batOk b
  · rfl
  · have hs : sigsOk b = true := (Qa2.1 hb).1.2.2.2.2.2.2.1
    simp only [hs, Bool.and_self, cond_true]
    cases decide (b.2.2.2.1 = 1) <;> cases decide (s = 3) <;> cases decide (s = 2) <;> cases gate b <;> cases decide (b.2.2.2.1 = 2) <;> cases decide (s = 4) <;> rfl)⟩
def devB (b : MBat) (k : Int) (o : Bool) : Bool := bif o then decide (k = b.2.2.2.2.2.length) && decide (k < 3) else inq k 0 ((b.2.2.2.2.2.length : Int) - 1) && b.2.2.2.2.2.getD k.toNat false
def withDev (b : MBat) (k : Int) (o : Bool) : MBat := (b.1, b.2.1, b.2.2.1, b.2.2.2.1, b.2.2.2.2.1, bif o then b.2.2.2.2.2 ++ [true] else b.2.2.2.2.2.set k.toNat false)
theorem Qkt (b : MBat) (k : Int) (o : Bool) : batDev b k o = bif isOpen b && devB b k o then (withDev b k o, true) else (b, false) := rfl
theorem Qpy {b : MBat} {k : Int} (h : inq k 0 ((b.2.2.2.2.2.length : Int) - 1) = true) : (bif (decide ((0 : Int) <= k)) then (decide (k < (List.length b.2.2.2.2.2 : Int))) else false) = true := by
  have := Qah.1 h
  rw [decide_eq_true this.1]
  exact decide_eq_true (by omega)
theorem Qpz {b : MBat} {k : Int} {A B : Option (Bool × MBat × Unit)} (hl : b.2.2.2.2.2.length <= 3) : (bif inq k 0 (w64 ((List.length b.2.2.2.2.2 : Int) - (1 : Int))) then (bif (bif (decide ((0 : Int) <= k)) then (decide (k < (List.length b.2.2.2.2.2 : Int))) else false) then (bif (rdL (e := Sh.bool) b.2.2.2.2.2 k) then (bif (bif (decide ((0 : Int) <= k)) then (decide (k < (List.length b.2.2.2.2.2 : Int))) else false) then A else none) else B) else none) else B) = bif inq k 0 ((b.2.2.2.2.2.length : Int) - 1) && b.2.2.2.2.2.getD k.toNat false then A else B := by
  rw [Qae (x := (List.length b.2.2.2.2.2 : Int) - 1) (by omega) (by omega)]
  cases h : inq k 0 ((b.2.2.2.2.2.length : Int) - 1)
  · rfl
  · rw [Qpy h]
    show (bif b.2.2.2.2.2.getD k.toNat false then A else B) = _
    rfl
theorem s_f0 : C_f0 (fun x => decide (List.length x.1.2.2.2.2.2 <= 3)) (fun x => bif devB x.1 x.2.2.1 x.2.1 then (true, withDev x.1 x.2.2.1 x.2.1, ()) else (false, x.1, ())) := S_f0 s_iin fun x hx => ⟨0, (ev_f0 0 x.1 x.2.1 x.2.2.1).trans (by
  obtain ⟨b, o, k, z⟩ := x
  change MBat at b
  have hl : List.length b.2.2.2.2.2 <= 3 := of_decide_eq_true hx
  have hf : fitL b.2.2.2.2.2 [true] = true := Qau (by show b.2.2.2.2.2.length + 1 <= _; omega)
  simp only [hf, Qpz hl, cond_true]
  unfold devB withDev
  cases o
  · simp only [cond_true, cond_false]
    cases (inq k 0 ((b.2.2.2.2.2.length : Int) - 1) && b.2.2.2.2.2.getD k.toNat false) <;> rfl
  · cases decide (k = (List.length b.2.2.2.2.2 : Int)) <;> cases decide (k < 3) <;> rfl)⟩
theorem s_f1 : C_f1 (fun x => smB x.1) (fun x => ((batDev x.1 x.2.1.2.1 x.2.1.1).1, (batDev x.1 x.2.1.2.1 x.2.1.1).2, ())) := S_f1 s_e8 s_di s_f0 fun x hx => ⟨0, (ev_f1 0 x.1 x.2.1).trans (by
  obtain ⟨b, ⟨o, k, z⟩, z2⟩ := x
  change MBat at b
  have h1 : smB b = true := hx
  simp only [cl, h1, cond_true]
  rw [p_open]
  rw [Qkt]
  show (bif isOpen b then _ else _) = _
  cases ho : isOpen b
  · rfl
  · have h3 : decide (List.length b.2.2.2.2.2 <= 3) = true := decide_eq_true (Qi7 ho)
    simp only [h3, Bool.true_and, cond_true]
    cases devB b k o <;> rfl)⟩
theorem s_f2 : C_f2 (fun x => smB x.1) (fun x => ((batDev x.1 x.2.1 x.2.2.1).1, (batDev x.1 x.2.1 x.2.2.1).2, ())) := S_f2 s_f1 fun x hx => ⟨0, (ev_f2 0 x.1 x.2.1 x.2.2.1).trans (cl_eq hx)⟩
theorem s_c2 : C_c2 (fun x => smB x.1) (fun x => ((batDev x.1 x.2.1 x.2.2.1).1, (batDev x.1 x.2.1 x.2.2.1).2, ())) := S_c2 s_bn s_be s_at fun x hx => ⟨0, (ev_c2 0 x.1 x.2.1 x.2.2.1).trans (by
  obtain ⟨b, k, o, z⟩ := x
  change MBat at b
  change Int at k
  have hx : smB b = true := hx
  simp only [cl, hx, cond_true]
  rw [p_open]
  rw [Qkt]
  show (bif isOpen b then _ else _) = _
  cases ho : isOpen b
  · rfl
  · have hl := Qi7 ho
    have hf : fitL b.2.2.2.2.2 [true] = true := Qau (by show b.2.2.2.2.2.length + 1 <= _; omega)
    simp only [hf, Bool.true_and, cond_true]
    rw [Qae (x := (List.length b.2.2.2.2.2 : Int) - 1) (by omega) (by omega)]
    unfold devB withDev
    cases o
    · cases h : inq k 0 ((b.2.2.2.2.2.length : Int) - 1)
      · rfl
      · rw [Qpy h]
        have e : rdL (e := Sh.bool) b.2.2.2.2.2 k = b.2.2.2.2.2.getD k.toNat false := rfl
        rw [e]
        cases b.2.2.2.2.2.getD k.toNat false <;> rfl
    · have e3 : decide (k = (List.length b.2.2.2.2.2 : Int)) = true -> decide ((List.length b.2.2.2.2.2 : Int) = 3) = !decide (k < 3) := fun h => by
        have h := of_decide_eq_true h
        by_cases h3 : k < 3
        · rw [decide_eq_true h3, decide_eq_false (by omega)]; rfl
        · rw [decide_eq_false h3, decide_eq_true (by omega)]; rfl
      cases hk : decide (k = (List.length b.2.2.2.2.2 : Int))
      · rfl
      · rw [e3 hk]
        cases decide (k < 3) <;> rfl)⟩
def withTst (b : MBat) (i : Int) (t : MTst) : MBat := (b.1, b.2.1, b.2.2.1.set i.toNat t, b.2.2.2.1, b.2.2.2.2.1, b.2.2.2.2.2)
noncomputable def turnAt (b : MBat) (n w : Int) (v : MDec) (c : Int) : MBat × Bool := bif decide (findT b.2.2.1 n < 0) then (b, false) else (withTst b (findT b.2.2.1 n) (tstTurn (b.2.2.1.getD (findT b.2.2.1 n).toNat t0) w v c).1, (tstTurn (b.2.2.1.getD (findT b.2.2.1 n).toNat t0) w v c).2)
theorem Qi8 (b : MBat) (n w : Int) (v : MDec) (c : Int) : batTest b n w v c = bif isOpen b then turnAt b n w v c else (b, false) := by
  unfold batTest turnAt
  cases isOpen b
  · rfl
  · cases decide (findT b.2.2.1 n < 0) <;> rfl
theorem s_em : C_em (fun _ => true) (fun x => (decide (x.1.1.1 = x.2.1), ())) := S_em fun x _ => ⟨0, ev_em 0 x.1 x.2.1⟩
theorem s_en : C_en (fun x => decide (List.length x.1 <= 4294967296)) (fun x => (findT x.1 x.2.1.1, ())) := S_en s_em fun x hx => ⟨List.length x.1 + 1, (ev_en _ x.1 x.2.1).trans (by
  have hx : List.length x.1 <= 4294967296 := of_decide_eq_true hx
  refine Qbg (α := MTst) x.1 (fun t => decide (t.1.1 = x.2.1.1)) (fun k i => r_en (fun x => (decide (x.1.1.1 = x.2.1), ())) (fun _ => true) (x.1, x.2.1, ()) k pt1 (h0_en x.1 x.2.1 (List.length x.1 : Int) (i : Int))) (fun k => ?_) (fun k i y r hd hi => ?_)
  · rw [rd0_en, Qab (Nat.le_refl _)]; rfl
  · rw [rd0_en, Qac hi, Qad hi, Qaf (by omega), Qaa hd]; rfl)⟩
theorem Qp0 (b : MBat) {i : Int} (h : i.toNat < b.2.2.1.length) : withTst b i (b.2.2.1.getD i.toNat t0) = b := by
  unfold withTst
  have : b.2.2.1.set i.toNat (b.2.2.1.getD i.toNat t0) = b.2.2.1 := by
    refine Qe2 ?_
    rw [List.getD_eq_getElem?_getD, List.getElem?_eq_getElem h]; rfl
  rw [this]
theorem Qqx {b : MBat} {i : Int} (h1 : 0 <= i) (h2 : i < b.2.2.1.length) : b.2.2.1.getD i.toNat t0 ∈ b.2.2.1 := by
  have h : i.toNat < b.2.2.1.length := by omega
  rw [List.getD_eq_getElem?_getD, List.getElem?_eq_getElem h]
  exact List.getElem_mem h
theorem s_ex : C_ex (fun x => smB x.1) (fun x => ((turnAt x.1 x.2.1 x.2.2.1 x.2.2.2.1 x.2.2.2.2.1).2, (turnAt x.1 x.2.1 x.2.2.1 x.2.2.2.1 x.2.2.2.2.1).1, ())) := S_ex s_en s_eq s_et s_ew fun x hx => ⟨0, (ev_ex 0 x.1 x.2.1 x.2.2.1 x.2.2.2.1 x.2.2.2.2.1).trans (by
  obtain ⟨b, n, w, v, c, z⟩ := x
  change MBat at b
  have hx : smB b = true := hx
  obtain ⟨h1, h2, h3, h4⟩ := Qba.1 hx
  have h1' : decide (List.length b.2.2.1 <= 4294967296) = true := decide_eq_true h1
  simp only [cl, lt_eq, h1', cond_true]
  show _ = some ((turnAt b n w v c).2, (turnAt b n w v c).1, ())
  unfold turnAt
  rcases Qfh b.2.2.1 n with hf | ⟨hf1, hf2⟩
  · rw [hf]; rfl
  · have e : rdL (e := S_TstTest) b.2.2.1 (findT b.2.2.1 n) = b.2.2.1.getD (findT b.2.2.1 n).toNat t0 := rfl
    have hs : smT (b.2.2.1.getD (findT b.2.2.1 n).toNat t0) = true := decide_eq_true (h2 _ (Qqx hf1 hf2))
    have hself := Qp0 b (i := findT b.2.2.1 n) (by omega)
    rw [e, decide_eq_false (show ¬ findT b.2.2.1 n < 0 by omega), decide_eq_true hf1, decide_eq_true hf2]
    simp only [hs, cond_true, cond_false]
    unfold tstTurn
    refine Qaj (fun h => by rw [if_pos h]; rfl) fun h => ?_
    rw [if_neg h]
    refine Qaj (fun h => by rw [if_pos h]; rfl) fun h => ?_
    rw [if_neg h]
    refine Qaj (fun h => by rw [if_pos h]; rfl) fun h => ?_
    rw [if_neg h, hself])⟩
theorem s_ey : C_ey (fun x => smB x.1) (fun x => ((batTest x.1 x.2.1.1 x.2.1.2.1 x.2.1.2.2.1 x.2.1.2.2.2.1).1, (batTest x.1 x.2.1.1 x.2.1.2.1 x.2.1.2.2.1 x.2.1.2.2.2.1).2, ())) := S_ey s_e8 s_di s_ex fun x hx => ⟨0, (ev_ey 0 x.1 x.2.1).trans (by
  obtain ⟨b, ⟨n, w, v, c, z⟩, z2⟩ := x
  change MBat at b
  have h1 : smB b = true := hx
  simp only [cl, h1, cond_true]
  rw [p_open]
  rw [Qi8]
  show (bif isOpen b then _ else _) = _
  cases ho : isOpen b <;> rfl)⟩
theorem s_ez : C_ez (fun x => smB x.1) (fun x => ((batTest x.1 x.2.1 x.2.2.1 x.2.2.2.1 x.2.2.2.2.1).1, (batTest x.1 x.2.1 x.2.2.1 x.2.2.2.1 x.2.2.2.2.1).2, ())) := S_ez s_ey fun x hx => ⟨0, (ev_ez 0 x.1 x.2.1 x.2.2.1 x.2.2.2.1 x.2.2.2.2.1).trans (cl_eq hx)⟩
theorem s_c0 : C_c0 (fun x => smT x.1) (fun x => ((tstTurn x.1 x.2.1 x.2.2.1 x.2.2.2.1).1, (tstTurn x.1 x.2.1 x.2.2.1 x.2.2.2.1).2, ())) := S_c0 s_bx s_by s_bz s_bm fun x hx => ⟨0, (ev_c0 0 x.1 x.2.1 x.2.2.1 x.2.2.2.1).trans (by
  obtain ⟨t, w, v, c, z⟩ := x
  change MTst at t
  have hx : smT t = true := hx
  simp only [cl, hx, cond_true]
  show _ = some ((tstTurn t w v c).1, (tstTurn t w v c).2, ())
  unfold tstTurn
  refine Qaj (fun h => by rw [if_pos h]) fun h => ?_
  rw [if_neg h]
  refine Qaj (fun h => by rw [if_pos h]) fun h => ?_
  rw [if_neg h]
  refine Qaj (fun h => by rw [if_pos h]) fun h => ?_
  rw [if_neg h])⟩
theorem s_c1 : C_c1 (fun x => smB x.1) (fun x => ((batTest x.1 x.2.1 x.2.2.1 x.2.2.2.1 x.2.2.2.2.1).1, (batTest x.1 x.2.1 x.2.2.1 x.2.2.2.1 x.2.2.2.2.1).2, ())) := S_c1 s_bn s_be s_c0 fun x hx => ⟨List.length x.1.2.2.1 + 1, (ev_c1 _ x.1 x.2.1 x.2.2.1 x.2.2.2.1 x.2.2.2.2.1).trans (by
  obtain ⟨b, n, w, v, c, z⟩ := x
  change MBat at b
  have hx : smB b = true := hx
  obtain ⟨h1, h2, h3, h4⟩ := Qba.1 hx
  simp only [cl, hx, cond_true]
  rw [p_open]
  rw [Qi8]
  show (bif isOpen b then _ else _) = _
  cases ho : isOpen b
  · rfl
  · have := Qaq (σ := Unit) b.2.2.1 (fun f i _ => r_c1 (fun x => (x.1, ())) (fun x => smB x.1) (fun x => (batOk x.1, ())) (fun x => smB x.1) (fun x => ((tstTurn x.1 x.2.1 x.2.2.1 x.2.2.2.1).1, (tstTurn x.1 x.2.1 x.2.2.1 x.2.2.2.1).2, ())) (fun x => smT x.1) (b, n, w, v, c, ()) f pt2 (h0_c1 b n w v c (i : Int) (0 : Int) (0 : Int) (0 : Int) [] [] [] b.1 b.2.1 b.2.2.2.1 b.2.2.1 b.2.2.2.2.1 b.2.2.2.2.2)) (fun r i _ => (fun j : Int => bif decide (j < 0) then ((b, false, ()) : MBat × Bool × Unit) else (withTst b j (tstTurn (b.2.2.1.getD j.toNat t0) w v c).1, (tstTurn (b.2.2.1.getD j.toNat t0) w v c).2, ())) (idxOf (fun t : MTst => decide (t.1.1 = n)) r i)) (fun _ _ => True) (fun f s _ => by
      rw [rd0_c1, Qab (Nat.le_refl _)]; rfl) (fun f i t r s hd hi _ => by
      have hp : smT t = true := decide_eq_true (h2 t (Qas hd))
      have h0i : decide ((0 : Int) <= (i : Int)) = true := decide_eq_true (by omega)
      rw [rd0_c1, Qaf (by omega), Qaa hd]
      simp only [cl, hp, h0i, Qad hi, cond_true]
      have eg : b.2.2.1.getD ((i : Int)).toNat t0 = t := by
        have e : rdL (e := S_TstTest) b.2.2.1 (i : Int) = b.2.2.1.getD ((i : Int)).toNat t0 := rfl
        rw [<- e, Qaa hd]
      have ei : idxOf (fun t : MTst => decide (t.1.1 = n)) (t :: r) i = bif decide (t.1.1 = n) then (i : Int) else idxOf (fun t : MTst => decide (t.1.1 = n)) r (i + 1) := rfl
      rw [ei]
      cases decide (t.1.1 = n)
      · exact .inr ⟨(), trivial, rfl, rfl⟩
      · refine .inl ?_
        simp only [cond_true]
        rw [decide_eq_false (show ¬ (i : Int) < 0 by omega), eg]; rfl) b.2.2.1.length 0 () (by omega) trivial
    rw [List.drop_zero] at this
    refine this.trans ?_
    unfold turnAt findT
    simp only [cond_true]
    cases decide (idxOf (fun t : MTst => decide (t.1.1 = n)) b.2.2.1 0 < 0) <;> rfl)⟩

end Go.Proofs.YtjmohfahchamaaaGreat

set_option linter.unusedVariables false
set_option linter.unusedSimpArgs false
namespace Go.Proofs.YtjmohfahchamaaaGreat
open Go.Vm
theorem s_c8 : C_c8 (fun _ => true) (fun x => (!inq x.1 1 4, ())) := S_c8 s_iin fun x _ => ⟨0, (ev_c8 0 x.1).trans (by simp only [Qa1])⟩

theorem s_c9 : C_c9 (fun x => decide (List.length x.1 <= 4294967296)) (fun x => (idxOf (fun d : Int => !inq d 1 4) x.1 0, ())) := S_c9 s_c8 fun x hx => ⟨List.length x.1 + 1, (ev_c9 _ x.1 x.2.1).trans (by
  have hx : List.length x.1 <= 4294967296 := of_decide_eq_true hx
  refine Qbg (α := Int) x.1 (fun d => !inq d 1 4) (fun k i => r_c9 (fun x => (!inq x.1 1 4, ())) (x.1, x.2.1, ()) k pt1 (h0_c9 x.1 x.2.1 (List.length x.1 : Int) (i : Int))) (fun k => ?_) (fun k i y r hd hi => ?_)
  · rw [rd0_c9, Qab (Nat.le_refl _)]; rfl
  · rw [rd0_c9, Qac hi, Qad hi, Qaf (by omega), Qaa hd]; rfl)⟩
theorem s_ca : C_ca (fun x => decide (List.length x.1 <= 4294967296)) (fun x => (List.any x.1 (fun d : Int => !inq d 1 4), ())) := S_ca s_c9 fun x hx => ⟨0, (ev_ca 0 x.1 x.2.1).trans (by
  have hx : (decide (List.length x.1 <= 4294967296)) = true := hx
  simp only [cl, hx, cond_true, Qbl])⟩
theorem s_cb : C_cb (fun x => decide (List.length x.1 <= 4294967296)) (fun x => (rolesOk x.1, ())) := S_cb s_iin s_ca fun x hx => ⟨0, (ev_cb 0 x.1).trans (by
  obtain ⟨l, u⟩ := x
  change List Int at l
  have hx : decide (List.length l <= 4294967296) = true := hx
  have e1 : (!(List.any l fun d : Int => !inq d 1 4)) = List.all l (fun d => inq d 1 4) := Qbs _ _
  show _ = some (rolesOk l, ())
  unfold rolesOk
  simp only [cl, hx, cond_true, Qa1]
  rw [e1]
  cases inq (List.length l : Int) 1 5 <;> rfl)⟩
theorem s_dj : C_dj (fun x => decide (List.length x.1 <= 4294967296)) (fun x => (same x.1 x.2.1, ())) := S_dj fun x hx => ⟨List.length x.1 + 1, (ev_dj _ x.1 x.2.1).trans (by
  have hx : List.length x.1 <= 4294967296 := of_decide_eq_true hx
  by_cases hl : List.length x.1 = List.length x.2.1
  · have el : (List.length x.1 : Int) = (List.length x.2.1 : Int) := by omega
    rw [decide_eq_true el]
    refine Qcl (α := MAsk) x.1 x.2.1 hl (fun k i => r_dj (x.1, x.2.1, ()) k pt0 (h0_dj x.1 x.2.1 (List.length x.1 : Int) (i : Int))) (fun k => ?_) (fun k i a b r r' hd hd' hi hi' => ?_)
    · rw [rd0_dj, Qab (Nat.le_refl _)]; rfl
    · rw [rd0_dj, Qac hi, Qac hi', Qad hi, Qaf (by omega), Qaa hd, Qaa hd', Qjs]
      cases same a b <;> rfl
  · rw [decide_eq_false (by omega), Qc0 (fun e => hl (congrArg List.length e))]; rfl)⟩
theorem Qma {ro : List Int} {s : MSig} (hr : ro.length <= 4294967296) (hs : sigOk s = true) (hl : ¬ (List.length ro : Int) < s.1) : w64 (s.1 - 1) = s.1 - 1 /\ (bif (decide ((0 : Int) <= s.1 - 1)) then (decide (s.1 - 1 < (List.length ro : Int))) else false) = true /\ rdL (e := I) ro (s.1 - 1) = ro.getD (s.1 - 1).toNat 0 := by
  have h := (Qgx.1 hs).1
  refine ⟨Qae (by omega) (by omega), ?_, rfl⟩
  rw [decide_eq_true (show (0 : Int) <= s.1 - 1 by omega)]
  exact decide_eq_true (by omega)
theorem s_dk : C_dk (fun x => sigOk x.1 && decide (List.length x.2.1.1 <= 4294967296)) (fun x => (!sigIn x.2.1.1 x.1, ())) := S_dk fun x hx => ⟨0, (ev_dk 0 x.1 x.2.1).trans (by
  obtain ⟨s, h, u⟩ := x
  change MSig at s
  change MHou at h
  obtain ⟨h1, h2⟩ := Bool.and_eq_true_iff.1 hx
  have h1 : sigOk s = true := h1
  have h2 : List.length h.1 <= 4294967296 := of_decide_eq_true h2
  show _ = some (!sigIn h.1 s, ())
  unfold sigIn
  by_cases hl : (List.length h.1 : Int) < s.1
  · rw [decide_eq_true hl, decide_eq_false (show ¬ s.1 <= (h.1.length : Int) by omega)]; rfl
  · obtain ⟨e1, e2, e3⟩ := Qma h2 h1 hl
    rw [e1, e2, e3, decide_eq_false hl, decide_eq_true (show s.1 <= (h.1.length : Int) by omega)]
    cases decide (h.1.getD (s.1 - 1).toNat 0 = s.2.1) <;> rfl)⟩
theorem s_dl : C_dl (fun x => decide (List.length x.1 <= 4294967296) && (decide (List.length x.2.1.1.1 <= 4294967296) && List.all x.1 sigOk)) (fun x => (idxOf (fun d : MSig => !sigIn x.2.1.1.1 d) x.1 0, ())) := S_dl s_dk fun x hx => ⟨List.length x.1 + 1, (ev_dl _ x.1 x.2.1).trans (by
  obtain ⟨hx, hx2⟩ := Bool.and_eq_true_iff.1 hx
  obtain ⟨hx2, hx3⟩ := Bool.and_eq_true_iff.1 hx2
  have hx : List.length x.1 <= 4294967296 := of_decide_eq_true hx
  refine Qbg (α := MSig) x.1 (fun d => !sigIn x.2.1.1.1 d) (fun k i => r_dl (fun x => (!sigIn x.2.1.1 x.1, ())) (fun x => sigOk x.1 && decide (List.length x.2.1.1 <= 4294967296)) (x.1, x.2.1, ()) k pt1 (h0_dl x.1 x.2.1 (List.length x.1 : Int) (i : Int))) (fun k => ?_) (fun k i y r hd hi => ?_)
  · rw [rd0_dl, Qab (Nat.le_refl _)]; rfl
  · rw [rd0_dl, Qac hi, Qad hi, Qaf (by omega), Qaa hd]
    have hs : sigOk y = true := List.all_eq_true.1 hx3 y (Qas hd)
    simp only [cl, hs, hx2, cond_true, Bool.and_self])⟩
theorem s_dm : C_dm (fun x => decide (List.length x.1 <= 4294967296) && (decide (List.length x.2.1.1.1 <= 4294967296) && List.all x.1 sigOk)) (fun x => (List.any x.1 (fun d : MSig => !sigIn x.2.1.1.1 d), ())) := S_dm s_dl fun x hx => ⟨0, (ev_dm 0 x.1 x.2.1).trans (by
  have hx : (decide (List.length x.1 <= 4294967296) && (decide (List.length x.2.1.1.1 <= 4294967296) && List.all x.1 sigOk)) = true := hx
  simp only [cl, hx, cond_true, Qbl])⟩
theorem s_dn : C_dn (fun x => houSm x.1 && smB x.2.1) (fun x => (batIn x.1.1 x.1.2.1 x.2.1, ())) := S_dn s_di s_dj s_dm fun x hx => by
  obtain ⟨h, b, u⟩ := x
  change MHou at h
  change MBat at b
  obtain ⟨hh, hb⟩ := Bool.and_eq_true_iff.1 hx
  have hb : smB b = true := hb
  obtain ⟨h1, h2, h3, h4⟩ := Qa9.1 (show houSm h = true from hh)
  obtain ⟨b1, b2, b3, b4⟩ := Qba.1 hb
  have h1' : decide (List.length h.1 <= 4294967296) = true := decide_eq_true h1
  have b3' : decide (List.length b.2.2.2.2.1 <= 4294967296) = true := decide_eq_true b3
  have ev := fun k => ev_dn (g_di := fun x => (batOk x.1, ())) (p_di := fun x => smB x.1) (g_dj := fun x => (same x.1 x.2.1, ())) (p_dj := fun x => decide (List.length x.1 <= 4294967296)) (g_dm := fun x => (List.any x.1 (fun d : MSig => !sigIn x.2.1.1.1 d), ())) (p_dm := fun x => decide (List.length x.1 <= 4294967296) && (decide (List.length x.2.1.1.1 <= 4294967296) && List.all x.1 sigOk)) k h b
  show ∃ k, E_dn _ _ _ _ _ _ k (h, b, ()) = some (batIn h.1 h.2.1 b, ())
  simp only [ev, cl, hb, cond_true]
  unfold batIn
  cases hok : batOk b
  · exact ⟨0, rfl⟩
  · obtain ⟨⟨g1, _, _, _, _, _, g7, _⟩, _⟩ := Qa2.1 hok
    have g7 : List.all b.2.2.2.2.1 sigOk = true := g7
    by_cases hs : (List.length h.2.1 : Int) <= b.1
    · refine ⟨0, ?_⟩
      rw [decide_eq_true hs, decide_eq_false (show ¬ b.1 < (h.2.1.length : Int) by omega)]; rfl
    · have hin : (bif (decide ((0 : Int) <= b.1)) then (decide (b.1 < (List.length h.2.1 : Int))) else false) = true := by
        rw [decide_eq_true g1.1]; exact decide_eq_true (by omega)
      have e : rdL (e := S_SpcSpec) h.2.1 b.1 = h.2.1.getD b.1.toNat spc0 := rfl
      rw [decide_eq_false hs, hin, decide_eq_true (show b.1 < (h.2.1.length : Int) by omega), e]
      cases decide ((h.2.1.getD b.1.toNat spc0).2 = 1)
      · have hlen : (b.2.2.1.map (·.1)).length <= 4294967296 := by rw [List.length_map]; exact b1
        have hlen' : decide (List.length (b.2.2.1.map (·.1)) <= 4294967296) = true := decide_eq_true hlen
        refine ⟨List.length b.2.2.1 + 1, ?_⟩
        have := Qaq (σ := List MAsk) b.2.2.1 (fun f i l => r_dn (fun x => (batOk x.1, ())) (fun x => smB x.1) (fun x => (same x.1 x.2.1, ())) (fun x => decide (List.length x.1 <= 4294967296)) (fun x => (List.any x.1 (fun d : MSig => !sigIn x.2.1.1.1 d), ())) (fun x => decide (List.length x.1 <= 4294967296) && (decide (List.length x.2.1.1.1 <= 4294967296) && List.all x.1 sigOk)) (h, b, ()) f pt2 (h0_dn h b (List.length b.2.2.1 : Int) (i : Int) l)) (fun r i l => (same (b.2.2.1.map (·.1)) (h.2.1.getD b.1.toNat spc0).1 && b.2.2.2.2.1.all (sigIn h.1), ())) (fun i l => l = (b.2.2.1.take i).map (·.1)) (fun f s hs => by
          rw [List.take_length] at hs
          have hs : s = b.2.2.1.map (·.1) := hs
          subst hs
          rw [rd0_dn, Qab (Nat.le_refl _), hin, e]
          simp only [cl, hlen', h1', b3', g7, cond_true, cond_false, Bool.and_self, Qa1]
          have e1 : (!(List.any b.2.2.2.2.1 fun d : MSig => !sigIn h.1 d)) = List.all b.2.2.2.2.1 (sigIn h.1) := Qbs _ _
          rw [e1]
          cases same (b.2.2.1.map (·.1)) (h.2.1.getD b.1.toNat spc0).1 <;> rfl) (fun f i t r s hd hi hs => by
          have hsl : s.length = i := by rw [hs, List.length_map, List.length_take]; omega
          refine .inr ⟨s ++ [t.1], ?_, ?_, rfl⟩
          · rw [hs, List.take_succ_eq_append_getElem hi, List.map_append]
            have : b.2.2.1[i] = t := by have := List.drop_eq_getElem_cons hi; rw [hd] at this; exact (List.cons.inj this).1.symm
            rw [this]; rfl
          · rw [rd0_dn, Qac hi, Qad hi, Qaf (by omega), Qaa hd, Qau (by show s.length + 1 <= _; omega)]; rfl) b.2.2.1.length 0 [] (by omega) (by rw [List.take_zero]; rfl)
        exact this
      · exact ⟨0, rfl⟩
theorem s_do : C_do (fun x => houSm x.2.1 && smB x.1) (fun x => (!batIn x.2.1.1 x.2.1.2.1 x.1, ())) := S_do s_dn fun x hx => ⟨0, (ev_do 0 x.1 x.2.1).trans (by
  have hx : (houSm x.2.1 && smB x.1) = true := hx
  simp only [cl, hx, cond_true, Qa1])⟩
theorem s_dp : C_dp (fun x => decide (List.length x.1 <= 4294967296) && (houSm x.2.1.1 && List.all x.1 smB)) (fun x => (idxOf (fun d : MBat => !batIn x.2.1.1.1 x.2.1.1.2.1 d) x.1 0, ())) := S_dp s_do fun x hx => ⟨List.length x.1 + 1, (ev_dp _ x.1 x.2.1).trans (by
  obtain ⟨hx, hx2⟩ := Bool.and_eq_true_iff.1 hx
  obtain ⟨hx2, hx3⟩ := Bool.and_eq_true_iff.1 hx2
  have hx : List.length x.1 <= 4294967296 := of_decide_eq_true hx
  refine Qbg (α := MBat) x.1 (fun d => !batIn x.2.1.1.1 x.2.1.1.2.1 d) (fun k i => r_dp (fun x => (!batIn x.2.1.1 x.2.1.2.1 x.1, ())) (fun x => houSm x.2.1 && smB x.1) (x.1, x.2.1, ()) k pt1 (h0_dp x.1 x.2.1 (List.length x.1 : Int) (i : Int))) (fun k => ?_) (fun k i y r hd hi => ?_)
  · rw [rd0_dp, Qab (Nat.le_refl _)]; rfl
  · rw [rd0_dp, Qac hi, Qad hi, Qaf (by omega), Qaa hd]
    have hs : smB y = true := List.all_eq_true.1 hx3 y (Qas hd)
    simp only [cl, hs, hx2, cond_true, Bool.and_self])⟩
theorem s_dq : C_dq (fun x => decide (List.length x.1 <= 4294967296) && (houSm x.2.1.1 && List.all x.1 smB)) (fun x => (List.any x.1 (fun d : MBat => !batIn x.2.1.1.1 x.2.1.1.2.1 d), ())) := S_dq s_dp fun x hx => ⟨0, (ev_dq 0 x.1 x.2.1).trans (by
  have hx : (decide (List.length x.1 <= 4294967296) && (houSm x.2.1.1 && List.all x.1 smB)) = true := hx
  simp only [cl, hx, cond_true, Qbl])⟩
theorem s_dr : C_dr (fun x => houSm x.1) (fun x => (houOk x.1, ())) := S_dr s_cb s_cm s_dq fun x hx => ⟨0, (ev_dr 0 x.1).trans (by
  obtain ⟨h, u⟩ := x
  change MHou at h
  have hx : houSm h = true := hx
  obtain ⟨h1, h2, h3, h4⟩ := Qa9.1 hx
  have h1' : decide (List.length h.1 <= 4294967296) = true := decide_eq_true h1
  have h3' : decide (List.length h.2.2 <= 4294967296) = true := decide_eq_true h3
  have h4' : List.all h.2.2 smB = true := List.all_eq_true.2 h4
  have e1 : (!(List.any h.2.2 fun d : MBat => !batIn h.1 h.2.1 d)) = List.all h.2.2 (batIn h.1 h.2.1) := Qbs _ _
  have e4 : decide ((List.length h.2.2 : Int) <= (4 : Int)) = decide (h.2.2.length <= 4) := by
    by_cases hl : h.2.2.length <= 4
    · rw [decide_eq_true hl, decide_eq_true (show (List.length h.2.2 : Int) <= (4 : Int) by omega)]
    · rw [decide_eq_false hl, decide_eq_false (show ¬ (List.length h.2.2 : Int) <= (4 : Int) by omega)]
  show _ = some (houOk h, ())
  unfold houOk
  simp only [cl, hx, h1', h2, h3', h4', cond_true, Bool.and_self, Qa1, e1, e4]
  cases rolesOk h.1
  · rfl
  · cases spcsOk h.2.1
    · rfl
    · cases decide (h.2.2.length <= 4) <;> rfl)⟩
theorem s_e1 : C_e1 (fun x => decide (List.length x.1 <= 4294967296)) (fun x => (x.1, ())) := S_e1 fun x hx => ⟨0, (ev_e1 0 x.1).trans (p_clone (α := Int) x.1 (of_decide_eq_true hx))⟩
theorem s_e9 : C_e9 (fun x => houSm x.1) (fun x => (x.1, ())) := S_e9 s_e1 s_e3 s_e8 fun x hx => ⟨List.length x.1.2.2 + 1, (ev_e9 _ x.1).trans (by
  obtain ⟨h, u⟩ := x
  change MHou at h
  obtain ⟨h1, h2, h3, h4⟩ := Qa9.1 (show houSm h = true from hx)
  have h1' : decide (List.length h.1 <= 4294967296) = true := decide_eq_true h1
  simp only [cl, h1', h2, cond_true]
  have := Qaq (σ := List MBat) h.2.2 (fun f i out => r_e9 (fun x => (x.1, ())) (fun x => decide (List.length x.1 <= 4294967296)) (fun x => (x.1, ())) (fun x => smS x.1) (fun x => (x.1, ())) (fun x => smB x.1) (h, ()) f pt0 (h0_e9 h (List.length h.2.2 : Int) (i : Int) [] [] [] h.1 h.2.1 out)) (fun r i out => ((h.1, h.2.1, out ++ r), ())) (fun i out => out.length = i) (fun f s hs => by
    rw [rd0_e9, Qab (Nat.le_refl _), List.append_nil]; rfl) (fun f i y r s hd hi hs => by
    have hp : smB y = true := h4 y (Qas hd)
    refine .inr ⟨s ++ [y], by rw [List.length_append]; show s.length + 1 = i + 1; omega, ?_, by simp⟩
    rw [rd0_e9, Qac hi, Qad hi, Qaf (by omega), Qaa hd]
    simp only [cl, hp, cond_true]
    rw [Qau (by show s.length + 1 <= _; omega)]; rfl) h.2.2.length 0 [] (by omega) rfl
  rw [List.drop_zero, List.nil_append] at this
  exact this)⟩
theorem s_bo : C_bo (fun x => houSm x.1) (fun x => (x.1, ())) := S_bo s_bl s_bn fun x hx => ⟨List.length x.1.2.2 + 1, (ev_bo _ x.1).trans (by
  obtain ⟨h, u⟩ := x
  change MHou at h
  obtain ⟨h1, h2, h3, h4⟩ := Qa9.1 (show houSm h = true from hx)
  rw [Qau (by show 0 + List.length h.1 <= _; omega)]
  simp only [cl, h2, cond_true]
  have := Qaq (σ := List MBat) h.2.2 (fun f i out => r_bo (fun x => (x.1, ())) (fun x => smS x.1) (fun x => (x.1, ())) (fun x => smB x.1) (h, ()) f pt0 (h0_bo h (i : Int) [] [] [] (List.append [] h.1) h.2.1 out)) (fun r i out => ((h.1, h.2.1, out ++ r), ())) (fun i out => out.length = i) (fun f s hs => by
    rw [rd0_bo, Qab (Nat.le_refl _), List.append_nil]; rfl) (fun f i y r s hd hi hs => by
    have hp : smB y = true := h4 y (Qas hd)
    refine .inr ⟨s ++ [y], by rw [List.length_append]; show s.length + 1 = i + 1; omega, ?_, by simp⟩
    rw [rd0_bo, Qac hi, Qad hi, Qaf (by omega), Qaa hd]
    simp only [cl, hp, cond_true]
    rw [Qau (by show s.length + 1 <= _; omega)]; rfl) h.2.2.length 0 [] (by omega) rfl
  rw [List.drop_zero, List.nil_append] at this
  exact this)⟩
theorem s_ea : C_ea (fun x => decide (List.length x.1 <= 4294967296)) (fun x => (idxOf (fun d : Int => decide (x.2.1 = d)) x.1 0, ())) := S_ea fun x hx => ⟨List.length x.1 + 1, (ev_ea _ x.1 x.2.1).trans (by
  have hx : List.length x.1 <= 4294967296 := of_decide_eq_true hx
  refine Qbg (α := Int) x.1 (fun d => decide (x.2.1 = d)) (fun k i => r_ea (x.1, x.2.1, ()) k pt1 (h0_ea x.1 x.2.1 (List.length x.1 : Int) (i : Int))) (fun k => ?_) (fun k i y r hd hi => ?_)
  · rw [rd0_ea, Qab (Nat.le_refl _)]; rfl
  · rw [rd0_ea, Qac hi, Qad hi, Qaf (by omega), Qaa hd]; rfl)⟩
theorem s_eb : C_eb (fun x => decide (List.length x.1 <= 4294967296)) (fun x => (List.any x.1 (fun d : Int => decide (x.2.1 = d)), ())) := S_eb s_ea fun x hx => ⟨0, (ev_eb 0 x.1 x.2.1).trans (by
  have hx : decide (List.length x.1 <= 4294967296) = true := hx
  simp only [cl, hx, cond_true, Qbl])⟩
theorem Qri (o k : Int) : List.any (manOf k).2.1 (fun d : Int => decide (o = d)) = reqMay o k /\ List.length (manOf k).2.1 <= 2 := by
  cases h : inq k 1 12
  · have h' : ¬ (1 <= k /\ k <= 12) := fun h2 => by rw [Qah.2 h2] at h; cases h
    have e : manOf k = (by0, [], by0) := by unfold manOf; rw [h]; rfl
    have e2 : reqMay o k = false := by
      unfold reqMay
      rw [if_neg (show ¬ k = 1 by omega), if_neg (show ¬ k = 2 by omega), if_neg (show ¬ k = 3 by omega), if_neg (show ¬ k = 4 by omega), if_neg (show ¬ k = 5 by omega), if_neg (show ¬ k = 6 by omega), if_neg (show ¬ k = 7 by omega), if_neg (show ¬ k = 8 by omega), if_neg (show ¬ k = 9 by omega), if_neg (show ¬ k = 10 by omega), if_neg (show ¬ k = 11 by omega), if_neg (show ¬ k = 12 by omega)]
    rw [e, e2]
    exact ⟨rfl, Nat.zero_le _⟩
  · have one : ∀ a : Int, List.any [a] (fun d : Int => decide (o = d)) = decide (o = a) := fun a => by
      show (decide (o = a) || false) = _
      rw [Bool.or_false]
    have two : ∀ a b : Int, List.any [a, b] (fun d : Int => decide (o = d)) = (decide (o = a) || decide (o = b)) := fun a b => by
      show (decide (o = a) || (decide (o = b) || false)) = _
      rw [Bool.or_false]
    rcases kinds h with rfl | rfl | rfl | rfl | rfl | rfl | rfl | rfl | rfl | rfl | rfl | rfl
    · exact ⟨one 4, Nat.le_of_ble_eq_true rfl⟩
    · exact ⟨one 4, Nat.le_of_ble_eq_true rfl⟩
    · exact ⟨two 1 2, Nat.le_of_ble_eq_true rfl⟩
    · exact ⟨two 1 2, Nat.le_of_ble_eq_true rfl⟩
    · exact ⟨two 2 3, Nat.le_of_ble_eq_true rfl⟩
    · exact ⟨two 1 2, Nat.le_of_ble_eq_true rfl⟩
    · exact ⟨two 1 2, Nat.le_of_ble_eq_true rfl⟩
    · exact ⟨two 2 3, Nat.le_of_ble_eq_true rfl⟩
    · exact ⟨two 2 3, Nat.le_of_ble_eq_true rfl⟩
    · exact ⟨one 3, Nat.le_of_ble_eq_true rfl⟩
    · exact ⟨one 3, Nat.le_of_ble_eq_true rfl⟩
    · exact ⟨one 3, Nat.le_of_ble_eq_true rfl⟩
theorem s_ec : C_ec (fun _ => true) (fun x => (reqMay x.1 x.2.1, ())) := S_ec s_dt s_eb fun x _ => ⟨0, (ev_ec 0 x.1 x.2.1).trans (by
  obtain ⟨h1, h2⟩ := Qri x.1 x.2.1
  have h2 : decide (List.length (manOf x.2.1).2.1 <= 4294967296) = true := decide_eq_true (Nat.le_trans h2 (by decide))
  simp only [cl, h2, cond_true, h1])⟩
theorem s_bp : C_bp (fun _ => true) (fun x => (reqMay x.1 x.2.1, ())) := S_bp fun x _ => ⟨0, (ev_bp 0 x.1 x.2.1).trans (by
  obtain ⟨o, k, u⟩ := x
  change Int at o
  change Int at k
  have or2 : ∀ a b : Bool, (bif a then (some (true, ())) else (some (b, ())) : Option (Bool × Unit)) = some (a || b, ()) := by intro a b; cases a <;> rfl
  simp only [or2]
  show _ = some (reqMay o k, ())
  unfold reqMay
  refine Qaj (fun h => by rw [if_pos h]) fun h1 => ?_
  rw [if_neg h1]
  refine Qaj (fun h => by rw [if_pos h]) fun h2 => ?_
  rw [if_neg h2]
  refine Qaj (fun h => by rw [if_pos h]) fun h3 => ?_
  rw [if_neg h3]
  refine Qaj (fun h => by rw [if_pos h]) fun h4 => ?_
  rw [if_neg h4]
  refine Qaj (fun (h : k = (6 : Int)) => by rw [if_neg (show ¬ k = (5 : Int) by omega), if_pos h]) fun h6 => ?_
  refine Qaj (fun (h : k = (7 : Int)) => by rw [if_neg (show ¬ k = (5 : Int) by omega), if_neg h6, if_pos h]) fun h7 => ?_
  refine Qaj (fun h => by rw [if_pos h]) fun h5 => ?_
  rw [if_neg h5, if_neg h6, if_neg h7]
  refine Qaj (fun h => by rw [if_pos h]) fun h8 => ?_
  rw [if_neg h8]
  refine Qaj (fun h => by rw [if_pos h]) fun h9 => ?_
  rw [if_neg h9]
  refine Qaj (fun h => by rw [if_pos h]) fun h10 => ?_
  rw [if_neg h10]
  refine Qaj (fun h => by rw [if_pos h]) fun h11 => ?_
  rw [if_neg h11]
  refine Qaj (fun h => by rw [if_pos h]) fun h12 => ?_
  rw [if_neg h12])⟩
theorem s_ee : C_ee (fun _ => true) (fun x => (ans x.1 x.2.1, ())) := S_ee fun x _ => ⟨0, (ev_ee 0 x.1 x.2.1).trans (by
  obtain ⟨b, n, u⟩ := x
  change Bool at b
  cases b <;> rfl)⟩
theorem s_bt : C_bt (fun x => decide (List.length x.1 <= 4294967296)) (fun x => (spcNow x.1, ())) := S_bt fun x hx => ⟨List.length x.1 + 1, (ev_bt _ x.1).trans (by
  have hx : List.length x.1 <= 4294967296 := of_decide_eq_true hx
  refine Qbg (α := MSpc) x.1 (fun s => decide (s.2 = 2)) (fun k i => r_bt (x.1, ()) k pt1 (h0_bt x.1 (i : Int))) (fun k => ?_) (fun k i y r hd hi => ?_)
  · rw [rd0_bt, Qab (Nat.le_refl _)]; rfl
  · rw [rd0_bt, Qac hi, Qad hi, Qaf (by omega), Qaa hd]; rfl)⟩
def hou4 (h : MHou) : Bool := houSm h && decide (h.2.2.length <= 4)
theorem Qdx {h : MHou} : hou4 h = true ↔ houSm h = true /\ h.2.2.length <= 4 := by unfold hou4; rw [Bool.and_eq_true, decide_eq_true_eq]
theorem Qrj (h : MHou) : decide ((List.length h.2.2 : Int) = (4 : Int)) = decide (h.2.2.length = 4) := by
  by_cases h' : h.2.2.length = 4
  · rw [decide_eq_true h', decide_eq_true (show (List.length h.2.2 : Int) = (4 : Int) by omega)]
  · rw [decide_eq_false h', decide_eq_false (show ¬ (List.length h.2.2 : Int) = (4 : Int) by omega)]
theorem p_take {β : Type} (h : MHou) (n : Int) (hh : hou4 h = true) (mk : MHou × Int -> β) :
    (bif (decide (spcNow h.2.1 < (0 : Int))) then (some (mk (h, 4))) else (bif (decide ((List.length h.2.2 : Int) = (4 : Int))) then (some (mk (h, 6))) else (bif (decide (n = (0 : Int))) then (some (mk (h, 5))) else (bif (bif (decide ((0 : Int) <= spcNow h.2.1)) then (decide (spcNow h.2.1 < (List.length h.2.1 : Int))) else false) then (bif smA (rdL (e := S_SpcSpec) h.2.1 (spcNow h.2.1)).1 then (bif (fitL h.2.2 [batNew (spcNow h.2.1) (rdL (e := S_SpcSpec) h.2.1 (spcNow h.2.1)).1 n]) then (some (mk ((h.1, h.2.1, (List.append h.2.2 [batNew (spcNow h.2.1) (rdL (e := S_SpcSpec) h.2.1 (spcNow h.2.1)).1 n])), 1))) else none) else none) else none)))) = some (mk (houTakeN h n)) := by
  obtain ⟨h0, h4⟩ := Qdx.1 hh
  obtain ⟨_, h2, _, _⟩ := Qa9.1 h0
  unfold houTakeN
  rw [Qrj]
  refine Qaj (fun h => by rw [if_pos h]) fun g1 => ?_
  rw [if_neg g1]
  refine Qaj (fun h => by rw [if_pos h]) fun g2 => ?_
  rw [if_neg g2]
  refine Qaj (fun h => by rw [if_pos h]) fun g3 => ?_
  rw [if_neg g3]
  have hr := (Qgz h.2.1).resolve_left (by omega)
  have e : rdL (e := S_SpcSpec) h.2.1 (spcNow h.2.1) = h.2.1.getD (spcNow h.2.1).toNat spc0 := rfl
  have hs : smA (h.2.1.getD (spcNow h.2.1).toNat spc0).1 = true := decide_eq_true ((Qbc.1 h2).2 _ (Qh8 hr.1 hr.2))
  rw [e, decide_eq_true hr.1, decide_eq_true hr.2, hs, Qau (by show h.2.2.length + 1 <= _; omega)]; rfl
theorem s_el : C_el (fun x => hou4 x.1) (fun x => ((houTakeN x.1 x.2.1).2, (houTakeN x.1 x.2.1).1, ())) := S_el s_eh s_ek fun x hx => ⟨0, (ev_el 0 x.1 x.2.1).trans (by
  obtain ⟨h, n, u⟩ := x
  change MHou at h
  change Int at n
  have hx : hou4 h = true := hx
  have hl : decide (List.length h.2.1 <= 4294967296) = true := decide_eq_true (Qbc.1 (Qa9.1 (Qdx.1 hx).1).2.1).1
  simp only [cl, hl, cond_true]
  exact p_take h n hx (fun p => (p.2, p.1, ())))⟩
theorem s_bw : C_bw (fun x => hou4 x.1) (fun x => ((houTakeN x.1 x.2.1.2.2.2.2.1).1, (houTakeN x.1 x.2.1.2.2.2.2.1).2, ())) := S_bw s_bt s_bv fun x hx => ⟨0, (ev_bw 0 x.1 x.2.1).trans (by
  obtain ⟨h, r, u⟩ := x
  change MHou at h
  change MReq at r
  have hx : hou4 h = true := hx
  have hl : decide (List.length h.2.1 <= 4294967296) = true := decide_eq_true (Qbc.1 (Qa9.1 (Qdx.1 hx).1).2.1).1
  simp only [cl, hl, cond_true]
  exact p_take h r.2.2.2.2.1 hx (fun p => (p.1, p.2, ())))⟩
theorem s_bs : C_bs (fun x => smS x.1.2.1 && smA x.2.1.2.2.2.2.2.2) (fun x => if x.2.1.2.1 = 1 then ((x.1.1, (spcAdd x.1.2.1 x.2.1.2.2.2.2.2.2).1, x.1.2.2), ans (spcAdd x.1.2.1 x.2.1.2.2.2.2.2.2).2 6, ()) else if (x.1.2.1.length : Int) <= x.2.1.2.2.2.2.1 then (x.1, 4, ()) else ((x.1.1, (spcRaise x.1.2.1 x.2.1.2.2.2.2.1).1, x.1.2.2), ans (spcRaise x.1.2.1 x.2.1.2.2.2.2.1).2 5, ())) := S_bs s_bq s_br fun x hx => ⟨0, (ev_bs 0 x.1 x.2.1).trans (by
  obtain ⟨h, r, u⟩ := x
  change MHou at h
  change MReq at r
  have hx : (smS h.2.1 && smA r.2.2.2.2.2.2) = true := hx
  obtain ⟨hs, ha⟩ := Bool.and_eq_true_iff.1 hx
  simp only [cl, hs, ha, Bool.and_self, cond_true]
  refine Qaj (fun h1 => by
    rw [if_pos h1]
    cases hc : (spcAdd h.2.1 r.2.2.2.2.2.2).2
    · rw [Qkq hc]; rfl
    · rfl) fun h1 => ?_
  rw [if_neg h1]
  refine Qaj (fun h2 => by rw [if_pos h2]) fun h2 => ?_
  rw [if_neg h2]
  cases hc : (spcRaise h.2.1 r.2.2.2.2.1).2
  · rw [Qhq hc]; rfl
  · rfl)⟩
theorem s_c5 : C_c5 (fun x => smB x.1) (fun x => ((batTurn x.1 x.2.1 x.2.2.1).1, (batTurn x.1 x.2.1 x.2.2.1).2, ())) := S_c5 s_c1 s_c2 s_c3 s_c4 fun x hx => ⟨0, (ev_c5 0 x.1 x.2.1 x.2.2.1).trans (by
  obtain ⟨b, r, o, u⟩ := x
  change MBat at b
  change MReq at r
  have hx : smB b = true := hx
  simp only [cl, hx, cond_true]
  show _ = some ((batTurn b r o).1, (batTurn b r o).2, ())
  unfold batTurn
  refine Qaj (fun h => by rw [if_pos h]) fun (c4 : ¬ r.2.1 = (4 : Int)) => ?_
  rw [if_neg c4]
  refine Qaj (fun h => by rw [if_pos h]) fun (c5 : ¬ r.2.1 = (5 : Int)) => ?_
  rw [if_neg c5]
  refine Qaj (fun h => by rw [if_pos h]) fun (c6 : ¬ r.2.1 = (6 : Int)) => ?_
  rw [if_neg c6]
  refine Qaj (fun h => by rw [if_pos h]) fun (c7 : ¬ r.2.1 = (7 : Int)) => ?_
  rw [if_neg c7]
  refine Qaj (fun h => by rw [if_pos h]) fun (c8 : ¬ r.2.1 = (8 : Int)) => ?_
  rw [if_neg c8]
  refine Qaj (fun h => by rw [if_pos h]) fun (c9 : ¬ r.2.1 = (9 : Int)) => ?_
  rw [if_neg c9]
  refine Qaj (fun h => by rw [if_pos h]) fun (c10 : ¬ r.2.1 = (10 : Int)) => ?_
  rw [if_neg c10]
  refine Qaj (fun h => by rw [if_pos h]) fun (c11 : ¬ r.2.1 = (11 : Int)) => ?_
  rw [if_neg c11])⟩
theorem s_f7 : C_f7 (fun x => houSm x.1 && (decide (0 <= x.2.1.2.2.1) && (inq x.2.1.1 1 x.1.1.length && inq x.2.1.2.1 4 12))) (fun x => ((houTurn x.1 x.2.1).2, (houTurn x.1 x.2.1).1, ())) := S_f7 s_ez s_f2 s_f5 s_f6 s_ee fun x hx => ⟨0, (ev_f7 0 x.1 x.2.1).trans (by
  obtain ⟨h, r, u⟩ := x
  change MHou at h
  change MReq at r
  simp only [Bool.and_eq_true, decide_eq_true_eq] at hx
  obtain ⟨h1, h2, h3, h4⟩ := hx
  have h1 : houSm h = true := h1
  have h2 : (0 : Int) <= r.2.2.1 := h2
  have h3 := Qah.1 (show inq r.1 1 h.1.length = true from h3)
  have h4 := Qah.1 (show inq r.2.1 4 12 = true from h4)
  obtain ⟨g1, g2, g3, g4⟩ := Qa9.1 h1
  have e1 : w64 (r.1 - 1) = r.1 - 1 := Qae (by omega) (by omega)
  simp only [lt_eq, cl, e1]
  show _ = some ((houTurn h r).2, (houTurn h r).1, ())
  unfold houTurn
  refine Qaj (fun hc => by rw [if_pos hc]) fun hc => ?_
  rw [if_neg hc, decide_eq_true h2, decide_eq_true (show r.2.2.1 < (List.length h.2.2 : Int) by omega)]
  have e2 : rdL (e := S_BatBatch) h.2.2 r.2.2.1 = h.2.2.getD r.2.2.1.toNat batNone := rfl
  have hb : smB (h.2.2.getD r.2.2.1.toNat batNone) = true := g4 _ (Qh7 h2 (by omega))
  have e3 : rdL (e := I) h.1 (r.1 - 1) = roleOf h r := rfl
  rw [e2, e3, decide_eq_true (show (0 : Int) <= r.1 - 1 by omega), decide_eq_true (show r.1 - 1 < (List.length h.1 : Int) by omega)]
  simp only [hb, cond_true]
  generalize h.2.2.getD r.2.2.1.toNat batNone = b at hb
  unfold batTurn
  refine Qaj (fun h => by rw [if_pos h]) fun (c4 : ¬ r.2.1 = (4 : Int)) => ?_
  rw [if_neg c4]
  refine Qaj (fun h => by rw [if_pos h]) fun (c5 : ¬ r.2.1 = (5 : Int)) => ?_
  rw [if_neg c5]
  refine Qaj (fun h => by rw [if_pos h]) fun (c6 : ¬ r.2.1 = (6 : Int)) => ?_
  rw [if_neg c6]
  refine Qaj (fun h => by rw [if_pos h]) fun (c7 : ¬ r.2.1 = (7 : Int)) => ?_
  rw [if_neg c7]
  refine Qaj (fun h => by rw [if_pos h]) fun (c8 : ¬ r.2.1 = (8 : Int)) => ?_
  rw [if_neg c8]
  refine Qaj (fun h => by rw [if_pos h]) fun (c9 : ¬ r.2.1 = (9 : Int)) => ?_
  rw [if_neg c9]
  refine Qaj (fun h => by rw [if_pos h]) fun (c10 : ¬ r.2.1 = (10 : Int)) => ?_
  rw [if_neg c10]
  refine Qaj (fun h => by rw [if_pos h]) fun (c11 : ¬ r.2.1 = (11 : Int)) => ?_
  rw [if_neg c11]
  rw [decide_eq_true (show r.2.1 = 12 by omega)]; rfl)⟩
theorem Qmb {h : MHou} {r : MReq} (hu : 1 <= r.1) (hr : h.1.length <= 4294967296) (hl : ¬ (List.length h.1 : Int) < r.1) : w64 (r.1 - 1) = r.1 - 1 /\ (bif (decide ((0 : Int) <= r.1 - 1)) then (decide (r.1 - 1 < (List.length h.1 : Int))) else false) = true /\ rdL (e := I) h.1 (r.1 - 1) = roleOf h r := by
  refine ⟨Qae (by omega) (by omega), ?_, rfl⟩
  rw [decide_eq_true (show (0 : Int) <= r.1 - 1 by omega)]
  exact decide_eq_true (by omega)
def goPre (h : MHou) (r : MReq) : Bool := hou4 h && (smA r.2.2.2.2.2.2 && (decide (1 <= r.1) && decide (0 <= r.2.2.1)))
theorem Qg1 {h : MHou} {r : MReq} : goPre h r = true ↔ hou4 h = true /\ smA r.2.2.2.2.2.2 = true /\ 1 <= r.1 /\ 0 <= r.2.2.1 := by
  unfold goPre; simp only [Bool.and_eq_true, decide_eq_true_eq]
theorem s_f8 : C_f8 (fun x => goPre x.1 x.2.1 && inq x.2.1.2.1 1 12) (fun x => ((houGo x.1 x.2.1).2, (houGo x.1 x.2.1).1, ())) := S_f8 s_ec s_ed s_ee s_ei s_el s_f7 fun x hx => ⟨0, (ev_f8 0 x.1 x.2.1).trans (by
  obtain ⟨h, r, u⟩ := x
  change MHou at h
  change MReq at r
  obtain ⟨hg, hk⟩ := Bool.and_eq_true_iff.1 hx
  obtain ⟨h1, h2, h3, h4⟩ := Qg1.1 (show goPre h r = true from hg)
  have hk := Qah.1 (show inq r.2.1 1 12 = true from hk)
  have h0 : houSm h = true := (Qdx.1 h1).1
  obtain ⟨g1, g2, g3, g4⟩ := Qa9.1 h0
  show _ = some ((houGo h r).2, (houGo h r).1, ())
  unfold houGo houMay
  by_cases hl : (List.length h.1 : Int) < r.1
  · rw [decide_eq_true hl, decide_eq_false (show ¬ r.1 <= (h.1.length : Int) by omega)]; rfl
  · obtain ⟨e1, e2, e3⟩ := Qmb h3 g1 hl
    rw [e1, e2, e3, decide_eq_false hl, decide_eq_true (show r.1 <= (h.1.length : Int) by omega)]
    cases hm : reqMay (roleOf h r) r.2.1
    · simp only [hm]; rfl
    · simp only [hm, cl, h1, h2, g2, cond_true, cond_false, Bool.and_self, Bool.true_and]
      refine Qaj (fun hc => by rw [if_pos hc]) fun (c1 : ¬ r.2.1 = (1 : Int)) => ?_
      rw [if_neg c1]
      refine Qaj (fun hc => by
        rw [if_pos hc]
        refine Qaj (fun hc2 => by rw [if_pos hc2]) fun c2 => ?_
        rw [if_neg c2]) fun (c2 : ¬ r.2.1 = (2 : Int)) => ?_
      rw [if_neg c2]
      refine Qaj (fun hc => by rw [if_pos hc]; rfl) fun (c3 : ¬ r.2.1 = (3 : Int)) => ?_
      rw [if_neg c3]
      have hp : (houSm h && (decide (0 <= r.2.2.1) && (inq r.1 1 h.1.length && inq r.2.1 4 12))) = true := by
        rw [h0, decide_eq_true h4, Qah.2 ⟨h3, (by omega : r.1 <= (h.1.length : Int))⟩, Qah.2 ⟨(by omega : (4 : Int) <= r.2.1), hk.2⟩]; rfl
      simp only [hp, cond_true])⟩
theorem s_c6 : C_c6 (fun x => goPre x.1 x.2.1) (fun x => ((houGo x.1 x.2.1).1, (houGo x.1 x.2.1).2, ())) := S_c6 s_bp s_bs s_bw s_c5 fun x hx => ⟨0, (ev_c6 0 x.1 x.2.1).trans (by
  obtain ⟨h, r, u⟩ := x
  change MHou at h
  change MReq at r
  obtain ⟨h1, h2, h3, h4⟩ := Qg1.1 (show goPre h r = true from hx)
  have h0 : houSm h = true := (Qdx.1 h1).1
  obtain ⟨g1, g2, g3, g4⟩ := Qa9.1 h0
  show _ = some ((houGo h r).1, (houGo h r).2, ())
  rw [lt_eq, lt_eq]
  unfold houGo houMay
  by_cases hl : (List.length h.1 : Int) < r.1
  · rw [decide_eq_true hl, decide_eq_false (show ¬ r.1 <= (h.1.length : Int) by omega)]; rfl
  · obtain ⟨e1, e2, e3⟩ := Qmb h3 g1 hl
    rw [e1, e2, e3, decide_eq_false hl, decide_eq_true (show r.1 <= (h.1.length : Int) by omega)]
    cases hm : reqMay (roleOf h r) r.2.1
    · simp only [hm]; rfl
    · simp only [hm, cl, h1, h2, g2, cond_true, cond_false, Bool.and_self, Bool.true_and]
      refine Qaj (fun hc => by rw [if_pos hc, if_pos hc]) fun (c1 : ¬ r.2.1 = (1 : Int)) => ?_
      rw [if_neg c1, if_neg c1]
      refine Qaj (fun hc => by
        rw [if_pos hc]
        split <;> rfl) fun (c2 : ¬ r.2.1 = (2 : Int)) => ?_
      rw [if_neg c2]
      refine Qaj (fun hc => by rw [if_pos hc]; rfl) fun (c3 : ¬ r.2.1 = (3 : Int)) => ?_
      rw [if_neg c3]
      unfold houTurn
      refine Qaj (fun hc => by rw [if_pos hc]) fun c4 => ?_
      rw [if_neg c4, decide_eq_true h4, decide_eq_true (show r.2.2.1 < (List.length h.2.2 : Int) by omega)]
      have eb : rdL (e := S_BatBatch) h.2.2 r.2.2.1 = h.2.2.getD r.2.2.1.toNat batNone := rfl
      have hb : smB (h.2.2.getD r.2.2.1.toNat batNone) = true := g4 _ (Qh7 h4 (by omega))
      rw [eb]
      simp only [hb, cond_true]
      cases ht : (batTurn (h.2.2.getD r.2.2.1.toNat batNone) r (roleOf h r)).2
      · have hs := Qra (l := h.2.2) (i := r.2.2.1) (by omega) (Qn9 ht)
        rw [hs]; rfl
      · rfl)⟩
theorem Qp1 {h : MHou} {r : MReq} (hh : houOk h = true) (hr : reqOk r = true) : goPre h r = true /\ inq r.2.1 1 12 = true := by
  have h1 := Qfc.1 hr
  have hu := Qah.1 h1.2.1
  have ht := Qmm hr
  refine ⟨Qg1.2 ⟨Qdx.2 ⟨Ql2 hh, (Qbu.1 hh).2.2.1⟩, decide_eq_true (by omega), hu.1, Qhr hr⟩, h1.1⟩
theorem s_f9 : C_f9 (fun x => houSm x.1 && smA x.2.1.2.2.2.2.2.2) (fun x => ((houDo x.1 x.2.1).1, (houDo x.1 x.2.1).2, ())) := S_f9 s_dr s_e0 s_e9 s_f8 fun x hx => ⟨0, (ev_f9 0 x.1 x.2.1).trans (by
  obtain ⟨h, r, u⟩ := x
  change MHou at h
  change MReq at r
  obtain ⟨h1, h2⟩ := Bool.and_eq_true_iff.1 hx
  have h1 : houSm h = true := h1
  have h2 : smA r.2.2.2.2.2.2 = true := h2
  simp only [cl, h1, h2, cond_true]
  show _ = some ((houDo h r).1, (houDo h r).2, ())
  unfold houDo
  cases hh : houOk h
  · rfl
  · cases hr : reqOk r
    · rfl
    · obtain ⟨p1, p2⟩ := Qp1 hh hr
      simp only [p1, p2, Bool.and_self, cond_true, cond_false])⟩
def sigsIn (ro : List Int) (b : MBat) : Bool := b.2.2.2.2.1.all (sigIn ro)
noncomputable def asksIn (s : MSpc) (b : MBat) : Bool := same (b.2.2.1.map (·.1)) s.1 && !decide (s.2 = 1)
theorem s_bf : C_bf (fun x => decide (List.length x.1 <= 4294967296) && (smB x.2.1 && sigsOk x.2.1)) (fun x => (sigsIn x.1 x.2.1, ())) := S_bf fun x hx => by
  obtain ⟨ro, b, u⟩ := x
  change List Int at ro
  change MBat at b
  simp only [Bool.and_eq_true, decide_eq_true_eq] at hx
  obtain ⟨h1, h2, h3⟩ := hx
  have h1 : ro.length <= 4294967296 := h1
  have h2 : smB b = true := h2
  have h3 : List.all b.2.2.2.2.1 sigOk = true := h3
  have b3 := (Qba.1 h2).2.2.1
  obtain ⟨k, hk⟩ := Qdj (α := MSig) b.2.2.2.2.1 (sigIn ro) true (fun k i => r_bf (ro, b, ()) k pt1 (h0_bf ro b (i : Int))) (fun _ => ⟨1, by rw [rd0_bf, Qab (Nat.le_refl _)]; rfl⟩) (fun k i s r hd hi => by
    have hs : sigOk s = true := List.all_eq_true.1 h3 s (Qas hd)
    have h0i : decide ((0 : Int) <= (i : Int)) = true := decide_eq_true (by omega)
    rw [rd0_bf, Qaf (by omega), Qaa hd]
    simp only [h0i, Qad hi, cond_true]
    unfold sigIn
    by_cases hl : (List.length ro : Int) < s.1
    · rw [decide_eq_true hl, decide_eq_false (show ¬ s.1 <= (ro.length : Int) by omega)]; rfl
    · obtain ⟨e1, e2, e3⟩ := Qma h1 hs hl
      rw [e1, e2, e3, decide_eq_false hl, decide_eq_true (show s.1 <= (ro.length : Int) by omega)]
      cases decide (ro.getD (s.1 - 1).toNat 0 = s.2.1) <;> rfl)
  rw [Bool.and_true] at hk
  exact ⟨k, (ev_bf k ro b).trans hk⟩
theorem Qqy (l : List MTst) (m : List MAsk) (hl : m.length = l.length) (F : Nat -> Nat -> Option (Bool × Unit)) (hend : ∀ k, F (k + 1) m.length = some (true, ()))
    (hstep : ∀ k i a t r r', m.drop i = a :: r -> l.drop i = t :: r' -> i < m.length -> i < l.length -> F (k + 1) i = bif same a t.1 then F k (i + 1) else some (false, ())) : F (m.length + 1) 0 = some (same (l.map (·.1)) m, ()) := by
  have e : same (l.map (·.1)) m = same m (l.map (·.1)) := by rw [Bool.eq_iff_iff, Qax, Qax]; exact eq_comm
  rw [e]
  refine Qcl m (l.map (·.1)) (by rw [List.length_map]; exact hl) F hend fun k i x y r r' hd hd' hi hi' => ?_
  rw [List.length_map] at hi'
  have hdl := List.drop_eq_getElem_cons hi'
  rw [<- List.map_drop, hdl, List.map_cons] at hd'
  rw [hstep k i x _ r _ hd hdl hi hi', (List.cons.inj hd').1]
theorem s_bg : C_bg (fun x => smA x.1.1 && smB x.2.1) (fun x => (asksIn x.1 x.2.1, ())) := S_bg fun x hx => ⟨List.length x.1.1 + 1, (ev_bg _ x.1 x.2.1).trans (by
  obtain ⟨s, b, u⟩ := x
  change MSpc at s
  change MBat at b
  obtain ⟨h1, h2⟩ := Bool.and_eq_true_iff.1 hx
  have h1 : List.length s.1 <= 4294967296 := of_decide_eq_true h1
  have h2 : smB b = true := h2
  show _ = some (asksIn s b, ())
  unfold asksIn
  by_cases hl : List.length s.1 = List.length b.2.2.1
  · have el : (List.length s.1 : Int) = (List.length b.2.2.1 : Int) := by omega
    rw [decide_eq_true el]
    cases decide (s.2 = 1)
    · refine (Qqy b.2.2.1 s.1 hl (fun k i => r_bg (s, b, ()) k pt0 (h0_bg s b (i : Int))) (fun k => ?_) (fun k i a t r r' hd hd' hi hi' => ?_)).trans ?_
      · rw [rd0_bg, Qab (Nat.le_refl _)]; rfl
      · rw [rd0_bg, Qac hi, Qac hi', Qad hi, Qaf (by omega), Qaa hd, Qaa hd', Qjs]
        cases same a t.1 <;> rfl
      · rw [Bool.not_false, Bool.and_true]
    · rw [Bool.not_true, Bool.and_false]; rfl
  · rw [decide_eq_false (show ¬ (List.length s.1 : Int) = (List.length b.2.2.1 : Int) by omega), Qc0 (fun e => hl (by rw [<- e, List.length_map]))]; rfl)⟩
theorem s_bh : C_bh (fun x => houSm x.1) (fun x => (houOk x.1, ())) := S_bh s_at s_b1 s_be s_bf s_bg fun x hx => by
  obtain ⟨h, u⟩ := x
  change MHou at h
  have hx : houSm h = true := hx
  obtain ⟨h1, h2, h3, h4⟩ := Qa9.1 hx
  have h1' : decide (List.length h.1 <= 4294967296) = true := decide_eq_true h1
  have key : ∃ k, r_bh (fun x => (inq x.1 x.2.1 x.2.2.1, ())) (fun x => (spcsOk x.1, ())) (fun x => (batOk x.1, ())) (fun x => smB x.1) (fun x => (sigsIn x.1 x.2.1, ())) (fun x => decide (List.length x.1 <= 4294967296) && (smB x.2.1 && sigsOk x.2.1)) (fun x => (asksIn x.1 x.2.1, ())) (fun x => smA x.1.1 && smB x.2.1) (h, ()) k pt0 (h0_bh h (0 : Int)) = some (h.1.all (fun d => inq d 1 4) && (h.2.2.all (batIn h.1 h.2.1) && true), ()) := by
    refine Qdj (α := Int) h.1 (fun d => inq d 1 4) _ (fun k i => r_bh (fun x => (inq x.1 x.2.1 x.2.2.1, ())) (fun x => (spcsOk x.1, ())) (fun x => (batOk x.1, ())) (fun x => smB x.1) (fun x => (sigsIn x.1 x.2.1, ())) (fun x => decide (List.length x.1 <= 4294967296) && (smB x.2.1 && sigsOk x.2.1)) (fun x => (asksIn x.1 x.2.1, ())) (fun x => smA x.1.1 && smB x.2.1) (h, ()) k pt0 (h0_bh h (i : Int))) (fun _ => ?_) (fun k i o r hd hi => ?_)
    · obtain ⟨k, hk⟩ := Qdj (α := MBat) h.2.2 (batIn h.1 h.2.1) true (fun k i => r_bh (fun x => (inq x.1 x.2.1 x.2.2.1, ())) (fun x => (spcsOk x.1, ())) (fun x => (batOk x.1, ())) (fun x => smB x.1) (fun x => (sigsIn x.1 x.2.1, ())) (fun x => decide (List.length x.1 <= 4294967296) && (smB x.2.1 && sigsOk x.2.1)) (fun x => (asksIn x.1 x.2.1, ())) (fun x => smA x.1.1 && smB x.2.1) (h, ()) k pt2 (h1_bh h (i : Int))) (fun _ => ⟨1, by
        rw [rd1_bh, lt_eq, Qab (Nat.le_refl _)]; rfl⟩) (fun k i b r hd hi => by
        have hb : smB b = true := h4 b (Qas hd)
        rw [rd1_bh, lt_eq, Qac hi, Qad hi, Qaf (by omega), Qaa hd]
        simp only [cl, hb, h1', cond_true, Bool.true_and, Bool.and_true]
        unfold batIn sigsIn asksIn
        cases hok : batOk b
        · rfl
        · obtain ⟨⟨g1, _, _, _, _, _, g7, _⟩, _⟩ := Qa2.1 hok
          by_cases hs : (List.length h.2.1 : Int) <= b.1
          · rw [decide_eq_true hs, decide_eq_false (show ¬ b.1 < (h.2.1.length : Int) by omega)]; rfl
          · have e : rdL (e := S_SpcSpec) h.2.1 b.1 = h.2.1.getD b.1.toNat spc0 := rfl
            have hsm : smA (h.2.1.getD b.1.toNat spc0).1 = true := decide_eq_true ((Qbc.1 h2).2 _ (Qh8 g1.1 (by omega)))
            rw [decide_eq_false hs, decide_eq_true (show b.1 < (List.length h.2.1 : Int) by omega), decide_eq_true g1.1, e]
            simp only [g7, hsm, cond_true, cond_false]
            cases List.all b.2.2.2.2.1 (sigIn h.1) <;> cases decide ((h.2.1.getD b.1.toNat spc0).2 = 1) <;> cases same (b.2.2.1.map (·.1)) (h.2.1.getD b.1.toNat spc0).1 <;> rfl)
      exact ⟨k + 1, by rw [rd0_bh, Qab (Nat.le_refl _)]; exact hk⟩
    · rw [rd0_bh, Qac hi, Qad hi, Qaf (by omega), Qaa hd]
      simp only [cond_true, Qa1, Qck]
  obtain ⟨k, hk⟩ := key
  refine ⟨k, (ev_bh k h).trans ?_⟩
  have e4 : decide (h.2.2.length <= 4) = !decide ((4 : Int) < (List.length h.2.2 : Int)) := by
    by_cases hl : h.2.2.length <= 4
    · rw [decide_eq_true hl, decide_eq_false (show ¬ (4 : Int) < (List.length h.2.2 : Int) by omega)]; rfl
    · rw [decide_eq_false hl, decide_eq_true (show (4 : Int) < (List.length h.2.2 : Int) by omega)]; rfl
  show _ = some (houOk h, ())
  unfold houOk rolesOk
  rw [e4]
  simp only [hk]
  cases inq (List.length h.1 : Int) 1 5
  · rfl
  · cases spcsOk h.2.1
    · simp only [Bool.false_and, Bool.and_false]; rfl
    · cases decide ((4 : Int) < (List.length h.2.2 : Int))
      · simp only [Bool.true_and, Bool.and_true, Bool.not_false]; rfl
      · simp only [Bool.true_and, Bool.false_and, Bool.and_false, Bool.not_true]; rfl
theorem s_c7 : C_c7 (fun x => houSm x.1 && smA x.2.1.2.2.2.2.2.2) (fun x => ((houDo x.1 x.2.1).1, (houDo x.1 x.2.1).2, ())) := S_c7 s_bh s_bk s_bo s_c6 fun x hx => ⟨0, (ev_c7 0 x.1 x.2.1).trans (by
  obtain ⟨h, r, u⟩ := x
  change MHou at h
  change MReq at r
  obtain ⟨h1, h2⟩ := Bool.and_eq_true_iff.1 hx
  have h1 : houSm h = true := h1
  have h2 : smA r.2.2.2.2.2.2 = true := h2
  simp only [cl, h1, h2, cond_true]
  show _ = some ((houDo h r).1, (houDo h r).2, ())
  unfold houDo
  cases hh : houOk h
  · rfl
  · cases hr : reqOk r
    · rfl
    · obtain ⟨p1, p2⟩ := Qp1 hh hr
      simp only [p1, Bool.and_self, cond_true, cond_false])⟩
end Go.Proofs.YtjmohfahchamaaaGreat

set_option linter.unusedVariables false
set_option linter.unusedSimpArgs false
namespace Go.Proofs.YtjmohfahchamaaaGreat
open Go.Vm
theorem Qe3 {S : Sh} {l : List S.den} {i : Nat} {x : S.den} (h : i < l.length) : rdL (e := S) (l.set i x) (i : Int) = x := by
  unfold rdL
  rw [Int.toNat_natCast, List.getD_eq_getElem?_getD, List.getElem?_set_self h]; rfl
theorem Qku (a b : Bool) : same a b = (a == b) := by
  rw [Bool.eq_iff_iff, Qax]; exact beq_iff_eq.symm
def wfTsts (l : List MTst) : Bool := okLen l.length && l.all (fun t => okLen t.2.2.2.2.length)
def wfBat (b : MBat) : Bool := wfTsts b.2.2.1 && (okLen b.2.2.2.2.1.length && okLen b.2.2.2.2.2.length)
def wfBats (l : List MBat) : Bool := okLen l.length && l.all wfBat
def wfHou (h : MHou) : Bool := okLen h.1.length && (wfSpcs h.2.1 && wfBats h.2.2)
def smTs (l : List MTst) : Bool := decide (l.length <= 4294967296) && l.all (fun t => decide (t.2.2.2.2.length <= 4294967296))
theorem Qia {l : List MTst} : smTs l = true ↔ l.length <= 4294967296 /\ ∀ t ∈ l, t.2.2.2.2.length <= 4294967296 := by
  unfold smTs; simp only [Bool.and_eq_true, decide_eq_true_eq, List.all_eq_true]
theorem Qkv {b : MBat} (h : smB b = true) : smTs b.2.2.1 = true /\ decide (List.length b.2.2.2.2.1 <= 4294967296) = true /\ decide (List.length b.2.2.2.2.2 <= 4294967296) = true := by
  obtain ⟨h1, h2, h3, h4⟩ := Qba.1 h
  exact ⟨Qia.2 ⟨h1, h2⟩, decide_eq_true h3, decide_eq_true h4⟩
def smBs (l : List MBat) : Bool := decide (l.length <= 4294967296) && l.all smB
theorem Qib {l : List MBat} : smBs l = true ↔ l.length <= 4294967296 /\ ∀ b ∈ l, smB b = true := by
  unfold smBs; simp only [Bool.and_eq_true, decide_eq_true_eq, List.all_eq_true]
theorem Qhs {h : MHou} (hh : houSm h = true) : decide (List.length h.1 <= 4294967296) = true /\ smS h.2.1 = true /\ smBs h.2.2 = true := by
  obtain ⟨h1, h2, h3, h4⟩ := Qa9.1 hh
  exact ⟨decide_eq_true h1, h2, Qib.2 ⟨h3, h4⟩⟩
theorem s_a0 : C_a0 (fun x => okLen (List.length x.1) && inq x.2.1 0 1048576) (fun x => (siN (List.length x.1) x.2.1, ())) := S_a0 fun x hx => ⟨0, (ev_a0 0 x.1 x.2.1).trans (by
  have h := Bool.and_eq_true_iff.1 hx
  have h2 := Qah.1 h.2
  exact p_szLen _ _ (Qaz.1 h.1) h2.1 h2.2)⟩
theorem s_a7 : C_a7 (fun x => okLen (List.length x.1) && inq x.2.1 0 1048576) (fun x => (siN (List.length x.1) x.2.1, ())) := S_a7 fun x hx => ⟨0, (ev_a7 0 x.1 x.2.1).trans (by
  have h := Bool.and_eq_true_iff.1 hx
  have h2 := Qah.1 h.2
  exact p_szLen _ _ (Qaz.1 h.1) h2.1 h2.2)⟩
theorem s_a8 : C_a8 (fun x => okLen (List.length x.1) && inq x.2.1 0 1048576) (fun x => (siN (List.length x.1) x.2.1, ())) := S_a8 fun x hx => ⟨0, (ev_a8 0 x.1 x.2.1).trans (by
  have h := Bool.and_eq_true_iff.1 hx
  have h2 := Qah.1 h.2
  exact p_szLen _ _ (Qaz.1 h.1) h2.1 h2.2)⟩
theorem s_a6 : C_a6 (fun x => wfTsts x.1 && inq x.2.1 0 1048576) (fun x => (szList siTst x.1 x.2.1, ())) := S_a6 s_a5 fun x hx => ⟨List.length x.1 + 1, (ev_a6 _ x.1 x.2.1).trans (by
  obtain ⟨h1, h2⟩ := Bool.and_eq_true_iff.1 hx
  obtain ⟨h3, h4⟩ := Bool.and_eq_true_iff.1 h1
  obtain ⟨h5, h6⟩ := Qah.1 h2
  have h4 : ∀ s ∈ (x.1 : List MTst), okLen (List.length s.2.2.2.2) = true := fun s hs => List.all_eq_true.1 h4 s hs
  refine p_sz0 (Qaz.1 h3) h5 h6 fun hle => ?_
  have key : ∀ (xs : List MTst) (l l0 : Int), xs.length <= 1048576 -> 0 <= l -> l <= 1048576 -> (∀ s ∈ xs, okLen (List.length s.2.2.2.2) = true) -> r_a6 (fun x => (szN (List.length x.1.2.2.2.2) x.2.1, ())) (fun x => okLen (List.length x.1.2.2.2.2) && inq x.2.1 0 1048576) (xs, l0, ()) (xs.length + 1) pt2 (h0_a6 xs l0 l ((0 : Nat) : Int)) = some (szGo siTst xs l, ()) := fun xs l l0 hx h0 h1 hm => by
    refine Qjp xs siTst Qdk (fun k i l => r_a6 (fun x => (szN (List.length x.1.2.2.2.2) x.2.1, ())) (fun x => okLen (List.length x.1.2.2.2.2) && inq x.2.1 0 1048576) (xs, l0, ()) k pt2 (h0_a6 xs l0 l (i : Int))) (fun k l => ?_) (fun k i y r l hd hi g0 g1 => ?_) l h0 h1
    · rw [rd0_a6, Qab (Nat.le_refl _)]; rfl
    · rw [rd0_a6, Qac hi, Qad hi, Qaf (by omega), Qaa hd]
      have : (okLen (List.length y.2.2.2.2) && inq l 0 1048576) = true := Bool.and_eq_true_iff.2 ⟨hm y (Qas hd), Qah.2 ⟨g0, g1⟩⟩
      rw [cl_eq this]
      rfl
  have e : w64 ((x.2.1 : Int) - ((List.length x.1 : Nat) : Int)) = x.2.1 - ((List.length x.1 : Nat) : Int) := Qae (Int.le_trans (by decide) (Int.sub_nonneg.2 hle)) (Int.le_trans (Int.sub_le_self _ (Int.natCast_nonneg _)) (Int.le_trans h6 (by decide)))
  rw [e]
  exact key x.1 _ x.2.1 (Int.ofNat_le.1 (show ((List.length x.1 : Nat) : Int) <= ((1048576 : Nat) : Int) from Int.le_trans hle h6)) (Int.sub_nonneg.2 hle) (Int.le_trans (Int.sub_le_self _ (Int.natCast_nonneg _)) h6) h4)⟩
theorem s_a9 : C_a9 (fun x => wfBat x.1 && inq x.2.1 0 1048576) (fun x => (siBat x.1 x.2.1, ())) := S_a9 s_a6 s_a7 s_a8 fun x hx => ⟨0, (ev_a9 0 x.1 x.2.1).trans (by
  obtain ⟨b, l, u⟩ := x
  change MBat at b
  change Int at l
  obtain ⟨h1, h2⟩ := Bool.and_eq_true_iff.1 hx
  have h1 : wfBat b = true := h1
  have h2 : inq l 0 1048576 = true := h2
  obtain ⟨w1, w23⟩ := Bool.and_eq_true_iff.1 h1
  obtain ⟨w2, w3⟩ := Bool.and_eq_true_iff.1 w23
  have h3 := Qah.1 h2
  dsimp only
  rw [cl_eq (Bool.and_eq_true_iff.2 ⟨w1, h2⟩)]
  refine p_sq fun g1 => ?_
  have k1 := Qcr (f := siTst) (xs := b.2.2.1) Qdk h3.1
  rw [cl_eq (Bool.and_eq_true_iff.2 ⟨w2, Qah.2 ⟨g1, by dsimp only at g1 ⊢; omega⟩⟩)]
  refine p_sq fun g2 => ?_
  have k2 := Ql6 (n := b.2.2.2.2.1.length) g1
  rw [cl_eq (Bool.and_eq_true_iff.2 ⟨w3, Qah.2 ⟨g2, by dsimp only at g1 g2 k2 ⊢; omega⟩⟩)]
  exact p_sq fun g3 => rfl)⟩
theorem s_aa : C_aa (fun x => wfBats x.1 && inq x.2.1 0 1048576) (fun x => (szList siBat x.1 x.2.1, ())) := S_aa s_a9 fun x hx => ⟨List.length x.1 + 1, (ev_aa _ x.1 x.2.1).trans (by
  obtain ⟨h1, h2⟩ := Bool.and_eq_true_iff.1 hx
  obtain ⟨h3, h4⟩ := Bool.and_eq_true_iff.1 h1
  obtain ⟨h5, h6⟩ := Qah.1 h2
  have h4 : ∀ s ∈ (x.1 : List MBat), wfBat s = true := fun s hs => List.all_eq_true.1 h4 s hs
  refine p_sz0 (Qaz.1 h3) h5 h6 fun hle => ?_
  have key : ∀ (xs : List MBat) (l l0 : Int), xs.length <= 1048576 -> 0 <= l -> l <= 1048576 -> (∀ s ∈ xs, wfBat s = true) -> r_aa (fun x => (siBat x.1 x.2.1, ())) (fun x => wfBat x.1 && inq x.2.1 0 1048576) (xs, l0, ()) (xs.length + 1) pt2 (h0_aa xs l0 l ((0 : Nat) : Int)) = some (szGo siBat xs l, ()) := fun xs l l0 hx h0 h1 hm => by
    refine Qjp xs siBat Qfd (fun k i l => r_aa (fun x => (siBat x.1 x.2.1, ())) (fun x => wfBat x.1 && inq x.2.1 0 1048576) (xs, l0, ()) k pt2 (h0_aa xs l0 l (i : Int))) (fun k l => ?_) (fun k i y r l hd hi g0 g1 => ?_) l h0 h1
    · rw [rd0_aa, Qab (Nat.le_refl _)]; rfl
    · rw [rd0_aa, Qac hi, Qad hi, Qaf (by omega), Qaa hd]
      have : (wfBat y && inq l 0 1048576) = true := Bool.and_eq_true_iff.2 ⟨hm y (Qas hd), Qah.2 ⟨g0, g1⟩⟩
      rw [cl_eq this]
      rfl
  have e : w64 ((x.2.1 : Int) - ((List.length x.1 : Nat) : Int)) = x.2.1 - ((List.length x.1 : Nat) : Int) := Qae (Int.le_trans (by decide) (Int.sub_nonneg.2 hle)) (Int.le_trans (Int.sub_le_self _ (Int.natCast_nonneg _)) (Int.le_trans h6 (by decide)))
  rw [e]
  exact key x.1 _ x.2.1 (Int.ofNat_le.1 (show ((List.length x.1 : Nat) : Int) <= ((1048576 : Nat) : Int) from Int.le_trans hle h6)) (Int.sub_nonneg.2 hle) (Int.le_trans (Int.sub_le_self _ (Int.natCast_nonneg _)) h6) h4)⟩
theorem s_ab : C_ab (fun x => wfHou x.1 && inq x.2.1 0 1048576) (fun x => (siHou x.1 x.2.1, ())) := S_ab s_a0 s_a3 s_aa fun x hx => ⟨0, (ev_ab 0 x.1 x.2.1).trans (by
  obtain ⟨b, l, u⟩ := x
  change MHou at b
  change Int at l
  obtain ⟨h1, h2⟩ := Bool.and_eq_true_iff.1 hx
  have h1 : wfHou b = true := h1
  have h2 : inq l 0 1048576 = true := h2
  obtain ⟨w1, w23⟩ := Bool.and_eq_true_iff.1 h1
  obtain ⟨w2, w3⟩ := Bool.and_eq_true_iff.1 w23
  have h3 := Qah.1 h2
  dsimp only
  rw [cl_eq (Bool.and_eq_true_iff.2 ⟨w1, h2⟩)]
  refine p_sq fun g1 => ?_
  have k1 := Ql6 (n := b.1.length) h3.1
  rw [cl_eq (Bool.and_eq_true_iff.2 ⟨w2, Qah.2 ⟨g1, by dsimp only at g1 k1 ⊢; omega⟩⟩)]
  refine p_sq fun g2 => ?_
  have k2 := Qcr (f := szSpc) (xs := b.2.1) Qea g1
  rw [cl_eq (Bool.and_eq_true_iff.2 ⟨w3, Qah.2 ⟨g2, by dsimp only at g1 g2 k1 k2 ⊢; omega⟩⟩)]
  exact p_sq fun g3 => rfl)⟩
theorem s_am : C_am (fun _ => true) (fun x => (x.1, ())) := S_am fun x _ => ⟨0, ev_am 0 x.1⟩
theorem s_ad : C_ad (fun x => decide (List.length x.1 <= 4294967296)) (fun x => (x.1, ())) := S_ad fun x hx => ⟨List.length x.1 + 1, (ev_ad _ x.1).trans (by
  have hx : List.length x.1 <= 4294967296 := of_decide_eq_true hx
  rw [p_make hx]
  refine (Qcq (α := Int) x.1 (fun y => y) (fun k i out => r_ad  (x.1, ()) k pt0 (h0_ad x.1 (i : Int) out)) (fun k out ho => ?_) (fun k i y r out hd hi ho => ?_) _ ?_).trans ?_
  · rw [rd0_ad, Qab (Nat.le_refl _)]; rfl
  · rw [rd0_ad, Qac hi, Qac (ho.symm ▸ hi), Qad hi, Qaf (by omega), Int.toNat_natCast, Qaa hd]; rfl
  · rw [List.length_replicate]; exact Int.toNat_natCast _
  · rw [List.map_id'])⟩
theorem s_ao : C_ao (fun x => decide (List.length x.1 <= 4294967296)) (fun x => (x.1, ())) := S_ao fun x hx => ⟨List.length x.1 + 1, (ev_ao _ x.1).trans (by
  have hx : List.length x.1 <= 4294967296 := of_decide_eq_true hx
  rw [p_make hx]
  refine (Qcq (α := Bool) x.1 (fun y => y) (fun k i out => r_ao  (x.1, ()) k pt0 (h0_ao x.1 (i : Int) out)) (fun k out ho => ?_) (fun k i y r out hd hi ho => ?_) _ ?_).trans ?_
  · rw [rd0_ao, Qab (Nat.le_refl _)]; rfl
  · rw [rd0_ao, Qac hi, Qac (ho.symm ▸ hi), Qad hi, Qaf (by omega), Int.toNat_natCast, Qaa hd]; rfl
  · rw [List.length_replicate]; exact Int.toNat_natCast _
  · rw [List.map_id'])⟩
theorem s_an : C_an (fun x => decide (List.length x.1 <= 4294967296)) (fun x => (x.1, ())) := S_an s_am fun x hx => ⟨List.length x.1 + 1, (ev_an _ x.1).trans (by
  have hx : List.length x.1 <= 4294967296 := of_decide_eq_true hx
  rw [p_make hx]
  refine (Qcq (α := MSig) x.1 (fun y => y) (fun k i out => r_an (fun x => (x.1, ())) (fun _ => true) (x.1, ()) k pt0 (h0_an x.1 (i : Int) out)) (fun k out ho => ?_) (fun k i y r out hd hi ho => ?_) _ ?_).trans ?_
  · rw [rd0_an, Qab (Nat.le_refl _)]; rfl
  · rw [rd0_an, Qac hi, Qac (ho.symm ▸ hi), Qad hi, Qaf (by omega), Int.toNat_natCast, Qaa hd]; try rw [cl_eq rfl]; rfl
  · rw [List.length_replicate]; exact Int.toNat_natCast _
  · rw [List.map_id'])⟩
theorem s_al : C_al (fun x => smTs x.1) (fun x => (x.1, ())) := S_al s_ak fun x hx => ⟨List.length x.1 + 1, (ev_al _ x.1).trans (by
  obtain ⟨h1, h2⟩ := Qia.1 hx
  have h1 : List.length x.1 <= 4294967296 := h1
  rw [p_make h1]
  refine (Qcq (α := MTst) x.1 (fun y => y) (fun k i out => r_al (fun x => (x.1, ())) (fun x => decide (List.length x.1.2.2.2.2 <= 4294967296)) (x.1, ()) k pt0 (h0_al x.1 (i : Int) out)) (fun k out ho => ?_) (fun k i y r out hd hi ho => ?_) _ ?_).trans ?_
  · rw [rd0_al, Qab (Nat.le_refl _)]; rfl
  · have h3 : decide (List.length y.2.2.2.2 <= 4294967296) = true := decide_eq_true (h2 y (Qas hd))
    rw [rd0_al, Qac hi, Qac (ho.symm ▸ hi), Qad hi, Qaf (by omega), Int.toNat_natCast, Qaa hd, cl_eq h3]; rfl
  · rw [List.length_replicate]; exact Int.toNat_natCast _
  · rw [List.map_id'])⟩
theorem s_ap : C_ap (fun x => smB x.1) (fun x => (x.1, ())) := S_ap s_al s_an s_ao fun x hx => ⟨0, (ev_ap 0 x.1).trans (by
  obtain ⟨h1, h2, h3⟩ := Qkv hx
  rw [cl_eq h1, cl_eq h2, cl_eq h3])⟩
theorem s_aq : C_aq (fun x => smBs x.1) (fun x => (x.1, ())) := S_aq s_ap fun x hx => ⟨List.length x.1 + 1, (ev_aq _ x.1).trans (by
  obtain ⟨h1, h2⟩ := Qib.1 hx
  have h1 : List.length x.1 <= 4294967296 := h1
  rw [p_make h1]
  refine (Qcq (α := MBat) x.1 (fun y => y) (fun k i out => r_aq (fun x => (x.1, ())) (fun x => smB x.1) (x.1, ()) k pt0 (h0_aq x.1 (i : Int) out)) (fun k out ho => ?_) (fun k i y r out hd hi ho => ?_) _ ?_).trans ?_
  · rw [rd0_aq, Qab (Nat.le_refl _)]; rfl
  · have h3 : smB y = true := h2 y (Qas hd)
    rw [rd0_aq, Qac hi, Qac (ho.symm ▸ hi), Qad hi, Qaf (by omega), Int.toNat_natCast, Qaa hd, cl_eq h3]; rfl
  · rw [List.length_replicate]; exact Int.toNat_natCast _
  · rw [List.map_id'])⟩
theorem s_ar : C_ar (fun x => houSm x.1) (fun x => (x.1, ())) := S_ar s_ad s_ai s_aq fun x hx => ⟨0, (ev_ar 0 x.1).trans (by
  obtain ⟨h1, h2, h3⟩ := Qhs hx
  rw [cl_eq h1, cl_eq h2, cl_eq h3])⟩
theorem s_fj : C_fj (fun _ => true) (fun x => (same x.1 x.2.1, ())) := S_fj fun x _ => ⟨0, (ev_fj 0 x.1 x.2.1).trans (by
  have key : ∀ a b : MSig, (bif (bif (decide (a.1 = b.1)) then false else true) then (some (false, ())) else (bif (bif (decide (a.2.1 = b.2.1)) then false else true) then (some (false, ())) else (bif (bif (decide (a.2.2 = b.2.2)) then false else true) then (some (false, ())) else (some (true, ()))))) = some (same a b, ()) := fun a b => by
    obtain ⟨a1, a2, a3⟩ := a
    obtain ⟨b1, b2, b3⟩ := b
    rw [Qcm (a1, a2, a3) b1 (b2, b3), Qcm (a2, a3) b2 b3]
    dsimp only
    rw [Qar, Qar, Qar]
    cases same a1 b1 <;> cases same a2 b2 <;> cases same a3 b3 <;> rfl
  exact key x.1 x.2.1)⟩
theorem s_fa : C_fa (fun x => decide (List.length x.1 <= 4294967296)) (fun x => (same x.1 x.2.1, ())) := S_fa fun x hx => ⟨List.length x.1 + 1, (ev_fa _ x.1 x.2.1).trans (p_eqS fun hl => by
  have hx : List.length x.1 <= 4294967296 := of_decide_eq_true hx
  refine Qcl (α := Int) x.1 x.2.1 hl (fun k i => r_fa  (x.1, x.2.1, ()) k pt0 (h0_fa x.1 x.2.1 (i : Int))) (fun k => ?_) (fun k i y z r r' hd hd' hi hi' => ?_)
  · rw [rd0_fa, Qab (Nat.le_refl _)]; rfl
  · rw [rd0_fa, Qac hi, Qac hi', Qad hi, Qaf (by omega), Qaa hd, Qaa hd']
    rw [Qar]; cases same y z <;> rfl)⟩
theorem s_fl : C_fl (fun x => decide (List.length x.1 <= 4294967296)) (fun x => (same x.1 x.2.1, ())) := S_fl fun x hx => ⟨List.length x.1 + 1, (ev_fl _ x.1 x.2.1).trans (p_eqS fun hl => by
  have hx : List.length x.1 <= 4294967296 := of_decide_eq_true hx
  refine Qcl (α := Bool) x.1 x.2.1 hl (fun k i => r_fl  (x.1, x.2.1, ()) k pt0 (h0_fl x.1 x.2.1 (i : Int))) (fun k => ?_) (fun k i y z r r' hd hd' hi hi' => ?_)
  · rw [rd0_fl, Qab (Nat.le_refl _)]; rfl
  · rw [rd0_fl, Qac hi, Qac hi', Qad hi, Qaf (by omega), Qaa hd, Qaa hd']
    rw [Qku]; cases y <;> cases z <;> rfl)⟩
theorem s_fk : C_fk (fun x => decide (List.length x.1 <= 4294967296)) (fun x => (same x.1 x.2.1, ())) := S_fk s_fj fun x hx => ⟨List.length x.1 + 1, (ev_fk _ x.1 x.2.1).trans (p_eqS fun hl => by
  have hx : List.length x.1 <= 4294967296 := of_decide_eq_true hx
  refine Qcl (α := MSig) x.1 x.2.1 hl (fun k i => r_fk (fun x => (same x.1 x.2.1, ())) (x.1, x.2.1, ()) k pt0 (h0_fk x.1 x.2.1 (i : Int))) (fun k => ?_) (fun k i y z r r' hd hd' hi hi' => ?_)
  · rw [rd0_fk, Qab (Nat.le_refl _)]; rfl
  · rw [rd0_fk, Qac hi, Qac hi', Qad hi, Qaf (by omega), Qaa hd, Qaa hd']
    show (bif (bif same y z then false else true) then _ else _) = _
    cases same y z <;> rfl)⟩
theorem s_fi : C_fi (fun x => smTs x.1) (fun x => (same x.1 x.2.1, ())) := S_fi s_fh fun x hx => ⟨List.length x.1 + 1, (ev_fi _ x.1 x.2.1).trans (p_eqS fun hl => by
  obtain ⟨h1, h2⟩ := Qia.1 hx
  have h1 : List.length x.1 <= 4294967296 := h1
  refine Qcl (α := MTst) x.1 x.2.1 hl (fun k i => r_fi (fun x => (same x.1 x.2.1, ())) (fun x => decide (List.length x.1.2.2.2.2 <= 4294967296)) (x.1, x.2.1, ()) k pt0 (h0_fi x.1 x.2.1 (i : Int))) (fun k => ?_) (fun k i y z r r' hd hd' hi hi' => ?_)
  · rw [rd0_fi, Qab (Nat.le_refl _)]; rfl
  · have h3 : decide (List.length y.2.2.2.2 <= 4294967296) = true := decide_eq_true (h2 y (Qas hd))
    rw [rd0_fi, Qac hi, Qac hi', Qad hi, Qaf (by omega), Qaa hd, Qaa hd', cl_eq h3]
    show (bif (bif same y z then false else true) then _ else _) = _
    cases same y z <;> rfl)⟩
theorem Qom (a b : MBat) : (same a.1 b.1 && (same a.2.1 b.2.1 && (same a.2.2.1 b.2.2.1 && (same a.2.2.2.1 b.2.2.2.1 && (same a.2.2.2.2.1 b.2.2.2.2.1 && (same a.2.2.2.2.2 b.2.2.2.2.2 && true)))))) = same a b := by
  rw [Bool.and_true, Qao, Qao, Qao, Qao, Qao]
theorem s_fm : C_fm (fun x => smB x.1) (fun x => (same x.1 x.2.1, ())) := S_fm s_fi s_fk s_fl fun x hx => ⟨0, (ev_fm 0 x.1 x.2.1).trans (by
  obtain ⟨a, b, u⟩ := x
  change MBat at a
  change MBat at b
  obtain ⟨h1, h2, h3⟩ := Qkv hx
  dsimp only at h1 h2 h3 ⊢
  rw [cl_eq h1, cl_eq h2, cl_eq h3, <- Qom a b, Qar, Qar, Qar]
  exact Qc3 (Qc3 (Qc3 (Qc3 (Qc3 (Qc3 rfl))))))⟩
theorem s_fn : C_fn (fun x => smBs x.1) (fun x => (same x.1 x.2.1, ())) := S_fn s_fm fun x hx => ⟨List.length x.1 + 1, (ev_fn _ x.1 x.2.1).trans (p_eqS fun hl => by
  obtain ⟨h1, h2⟩ := Qib.1 hx
  have h1 : List.length x.1 <= 4294967296 := h1
  refine Qcl (α := MBat) x.1 x.2.1 hl (fun k i => r_fn (fun x => (same x.1 x.2.1, ())) (fun x => smB x.1) (x.1, x.2.1, ()) k pt0 (h0_fn x.1 x.2.1 (i : Int))) (fun k => ?_) (fun k i y z r r' hd hd' hi hi' => ?_)
  · rw [rd0_fn, Qab (Nat.le_refl _)]; rfl
  · have h3 : smB y = true := h2 y (Qas hd)
    rw [rd0_fn, Qac hi, Qac hi', Qad hi, Qaf (by omega), Qaa hd, Qaa hd', cl_eq h3]
    show (bif (bif same y z then false else true) then _ else _) = _
    cases same y z <;> rfl)⟩
theorem s_fo : C_fo (fun x => houSm x.1) (fun x => (same x.1 x.2.1, ())) := S_fo s_fa s_ff s_fn fun x hx => ⟨0, (ev_fo 0 x.1 x.2.1).trans (by
  obtain ⟨a, b, u⟩ := x
  change MHou at a
  change MHou at b
  obtain ⟨h1, h2, h3⟩ := Qhs hx
  dsimp only at h1 h2 h3 ⊢
  rw [cl_eq h1, cl_eq h2, cl_eq h3, <- Qi5 a b]
  exact Qc3 (Qc3 (Qc3 rfl)))⟩
theorem s_fq : C_fq (fun x => mkPre (szL (fun _ => 1)) x.1 x.2.1) (fun x => ((markL mkInt x.1 x.2.1).2, ((markL mkInt x.1 x.2.1).1, ()))) := S_fq fun x hx => ⟨List.length x.1 + 1, (ev_fq _ x.1 x.2.1).trans (by
  obtain ⟨h1, h2⟩ := Qai.1 hx
  have hl : List.length x.1 <= szL (fun _ => 1) x.1 := Qbd (fun _ => by decide) x.1
  refine Qcd (α := Int) (mk := mkInt) (sz := fun _ => 1) Qc9.go x.1 4294967296 (fun c out => some (c, (out, ()))) (fun k i c out => r_fq (x.1, x.2.1, ()) k pt1 (h0_fq x.1 x.2.1 c (i : Int) out)) (fun k c out ho => ?_) (fun k i y r c out hd hi ho h0 hB => ?_) x.2.1 h1 h2
  · rw [rd0_fq]
    try simp only [lt_eq]
    rw [Qab (show out.length <= List.length x.1 by omega)]; rfl
  · have hi' : i < out.length := by omega
    have hB : c + 1 <= 4294967296 := hB
    rw [rd0_fq]
    have hr : ∀ y : Int, rdL (e := I) (out.set i y) (i : Int) = y := fun y => Qe3 hi'
    have h0i : decide ((0 : Int) <= (i : Int)) = true := decide_eq_true (by omega)
    have h3 : (bif (decide ((3 : Int) = (0 : Int))) then false else true) = true := rfl
    simp only [lt_eq, h3, Int.toNat_natCast, List.length_set, hr, List.set_set, h0i, Qad hi', cond_true, Qaf (show i <= 4294967296 by omega)]
    rw [Qae (x := c + 1) (by omega) (by omega)]
    rfl)⟩
theorem s_g0 : C_g0 (fun x => mkPre (szL (fun _ => 1)) x.1 x.2.1) (fun x => (hdOf (markL mkInt) x.1 x.2.1, ())) := S_g0 fun x hx => ⟨List.length x.1 + 1, (ev_g0 _ x.1 x.2.1).trans (by
  obtain ⟨h1, h2⟩ := Qai.1 hx
  have hl : List.length x.1 <= szL (fun _ => 1) x.1 := Qbd (fun _ => by decide) x.1
  refine Qce (α := Int) (mk := mkInt) (sz := fun _ => 1) Qc9 x.1 4294967296 (fun k i c => r_g0 (x.1, x.2.1, ()) k pt1 (h0_g0 x.1 x.2.1 c (i : Int))) (fun k c => ?_) (fun k i y r c hd hi h0 hB => ?_) x.2.1 h1 h2
  · rw [rd0_g0]
    try simp only [lt_eq]
    rw [Qab (Nat.le_refl _)]; rfl
  · have hB : c + 1 <= 4294967296 := hB
    rw [rd0_g0]
    have h0i : decide ((0 : Int) <= (i : Int)) = true := decide_eq_true (by omega)
    have h3 : (bif (decide ((3 : Int) = (0 : Int))) then false else true) = true := rfl
    simp only [lt_eq, h3, h0i, Qad hi, cond_true, Qaf (show i <= 4294967296 by omega), Qaa hd]
    rw [Qae (x := c + 1) (by omega) (by omega)]
    unfold mkInt
    simp only [Qcm, Qar]
    cases same y c <;> rfl)⟩
theorem s_fw : C_fw (fun x => mkPre (szL (fun _ => 1)) x.1 x.2.1) (fun x => ((markL mkBool x.1 x.2.1).2, ((markL mkBool x.1 x.2.1).1, ()))) := S_fw fun x hx => ⟨List.length x.1 + 1, (ev_fw _ x.1 x.2.1).trans (by
  obtain ⟨h1, h2⟩ := Qai.1 hx
  have hl : List.length x.1 <= szL (fun _ => 1) x.1 := Qbd (fun _ => by decide) x.1
  refine Qcd (α := Bool) (mk := mkBool) (sz := fun _ => 1) Qdh.go x.1 4294967296 (fun c out => some (c, (out, ()))) (fun k i c out => r_fw (x.1, x.2.1, ()) k pt1 (h0_fw x.1 x.2.1 c (i : Int) out)) (fun k c out ho => ?_) (fun k i y r c out hd hi ho h0 hB => ?_) x.2.1 h1 h2
  · rw [rd0_fw]
    try simp only [lt_eq]
    rw [Qab (show out.length <= List.length x.1 by omega)]; rfl
  · have hi' : i < out.length := by omega
    have hB : c + 1 <= 4294967296 := hB
    rw [rd0_fw]
    have hr : ∀ y : Bool, rdL (e := Sh.bool) (out.set i y) (i : Int) = y := fun y => Qe3 hi'
    have h0i : decide ((0 : Int) <= (i : Int)) = true := decide_eq_true (by omega)
    have h3 : (bif (decide ((3 : Int) = (0 : Int))) then false else true) = true := rfl
    simp only [lt_eq, h3, Int.toNat_natCast, List.length_set, hr, List.set_set, h0i, Qad hi', cond_true, Qaf (show i <= 4294967296 by omega)]
    rw [Qae (x := c + 1) (by omega) (by omega)]
    rfl)⟩
theorem s_g6 : C_g6 (fun x => mkPre (szL (fun _ => 1)) x.1 x.2.1) (fun x => (hdOf (markL mkBool) x.1 x.2.1, ())) := S_g6 fun x hx => ⟨List.length x.1 + 1, (ev_g6 _ x.1 x.2.1).trans (by
  obtain ⟨h1, h2⟩ := Qai.1 hx
  have hl : List.length x.1 <= szL (fun _ => 1) x.1 := Qbd (fun _ => by decide) x.1
  refine Qce (α := Bool) (mk := mkBool) (sz := fun _ => 1) Qdh x.1 4294967296 (fun k i c => r_g6 (x.1, x.2.1, ()) k pt1 (h0_g6 x.1 x.2.1 c (i : Int))) (fun k c => ?_) (fun k i y r c hd hi h0 hB => ?_) x.2.1 h1 h2
  · rw [rd0_g6]
    try simp only [lt_eq]
    rw [Qab (Nat.le_refl _)]; rfl
  · have hB : c + 1 <= 4294967296 := hB
    rw [rd0_g6]
    have h0i : decide ((0 : Int) <= (i : Int)) = true := decide_eq_true (by omega)
    have h3 : (bif (decide ((3 : Int) = (0 : Int))) then false else true) = true := rfl
    simp only [lt_eq, h3, h0i, Qad hi, cond_true, Qaf (show i <= 4294967296 by omega), Qaa hd]
    rw [Qae (x := c + 1) (by omega) (by omega)]
    unfold mkBool
    simp only [Qcm, Qar]
    try rw [Qku]
    generalize (y == _) = q
    cases q <;> rfl)⟩
theorem s_fv : C_fv (fun x => mkPre (szL (fun _ => 3)) x.1 x.2.1) (fun x => ((markL mkSig x.1 x.2.1).2, ((markL mkSig x.1 x.2.1).1, ()))) := S_fv fun x hx => ⟨List.length x.1 + 1, (ev_fv _ x.1 x.2.1).trans (by
  obtain ⟨h1, h2⟩ := Qai.1 hx
  have hl : List.length x.1 <= szL (fun _ => 3) x.1 := Qbd (fun _ => by decide) x.1
  refine Qcd (α := MSig) (mk := mkSig) (sz := fun _ => 3) Qdv.go x.1 4294967296 (fun c out => some (c, (out, ()))) (fun k i c out => r_fv (x.1, x.2.1, ()) k pt1 (h0_fv x.1 x.2.1 c (i : Int) out)) (fun k c out ho => ?_) (fun k i y r c out hd hi ho h0 hB => ?_) x.2.1 h1 h2
  · rw [rd0_fv]
    try simp only [lt_eq]
    rw [Qab (show out.length <= List.length x.1 by omega)]; rfl
  · have hi' : i < out.length := by omega
    have hB : c + 3 <= 4294967296 := hB
    rw [rd0_fv]
    have hr : ∀ y : MSig, rdL (e := S_BatSig) (out.set i y) (i : Int) = y := fun y => Qe3 hi'
    have h0i : decide ((0 : Int) <= (i : Int)) = true := decide_eq_true (by omega)
    have h3 : (bif (decide ((3 : Int) = (0 : Int))) then false else true) = true := rfl
    simp only [lt_eq, h3, Int.toNat_natCast, List.length_set, hr, List.set_set, h0i, Qad hi', cond_true, Qaf (show i <= 4294967296 by omega)]
    rw [Qae (x := c + 1) (by omega) (by omega), Qae (x := c + 1 + 1) (by omega) (by omega), Qae (x := c + 1 + 1 + 1) (by omega) (by omega)]
    rfl)⟩
theorem s_g5 : C_g5 (fun x => mkPre (szL (fun _ => 3)) x.1 x.2.1) (fun x => (hdOf (markL mkSig) x.1 x.2.1, ())) := S_g5 fun x hx => ⟨List.length x.1 + 1, (ev_g5 _ x.1 x.2.1).trans (by
  obtain ⟨h1, h2⟩ := Qai.1 hx
  have hl : List.length x.1 <= szL (fun _ => 3) x.1 := Qbd (fun _ => by decide) x.1
  refine Qce (α := MSig) (mk := mkSig) (sz := fun _ => 3) Qdv x.1 4294967296 (fun k i c => r_g5 (x.1, x.2.1, ()) k pt1 (h0_g5 x.1 x.2.1 c (i : Int))) (fun k c => ?_) (fun k i y r c hd hi h0 hB => ?_) x.2.1 h1 h2
  · rw [rd0_g5]
    try simp only [lt_eq]
    rw [Qab (Nat.le_refl _)]; rfl
  · have hB : c + 3 <= 4294967296 := hB
    rw [rd0_g5]
    have h0i : decide ((0 : Int) <= (i : Int)) = true := decide_eq_true (by omega)
    have h3 : (bif (decide ((3 : Int) = (0 : Int))) then false else true) = true := rfl
    simp only [lt_eq, h3, h0i, Qad hi, cond_true, Qaf (show i <= 4294967296 by omega), Qaa hd]
    rw [Qae (x := c + 1) (by omega) (by omega), Qae (x := c + 1 + 1) (by omega) (by omega), Qae (x := c + 1 + 1 + 1) (by omega) (by omega)]
    unfold mkSig
    simp only [Qcm, Qar]
    cases same y.1 c <;> cases same y.2.1 (c + 1) <;> cases same y.2.2 (c + 1 + 1) <;> rfl)⟩
theorem Qcw {α β : Type} {v : α} {k : α -> β} {r : β} (h : ∀ t, t = v -> k t = r) : lt v k = r := h v rfl
theorem s_fu : C_fu (fun x => mkPre (szL szT) x.1 x.2.1) (fun x => ((markL mkTst x.1 x.2.1).2, ((markL mkTst x.1 x.2.1).1, ()))) := S_fu s_ft fun x hx => ⟨List.length x.1 + 1, (ev_fu _ x.1 x.2.1).trans (by
  obtain ⟨h1, h2⟩ := Qai.1 hx
  have hl : List.length x.1 <= szL szT x.1 := Qbd Qm5 x.1
  refine Qcd (α := MTst) (mk := mkTst) (sz := szT) Qdw.go x.1 4294967296 (fun c out => some (c, (out, ()))) (fun k i c out => r_fu (fun x => ((markL mkDec x.1 x.2.1).2, ((markL mkDec x.1 x.2.1).1, ()))) (fun x => mkPre (szL (fun _ => 2)) x.1 x.2.1) (x.1, x.2.1, ()) k pt1 (h0_fu x.1 x.2.1 c (i : Int) out)) (fun k c out ho => ?_) (fun k i y r c out hd hi ho h0 hB => ?_) x.2.1 h1 h2
  · rw [rd0_fu]
    repeat with_reducible refine Qcw fun t e => ?_
    rw [Qab (show out.length <= List.length x.1 by omega)]; rfl
  · have hi' : i < out.length := by omega
    have hB : c + ((10 + szL (fun _ => 2) y.2.2.2.2 : Nat) : Int) <= 4294967296 := hB
    rw [rd0_fu]
    have hr : ∀ y : MTst, rdL (e := S_TstTest) (out.set i y) (i : Int) = y := fun y => Qe3 hi'
    have h0i : decide ((0 : Int) <= (i : Int)) = true := decide_eq_true (by omega)
    have hp : mkPre (szL (fun _ => 2)) y.2.2.2.2 (c + 1 + 1 + 1 + 1 + 1 + 1 + 1 + 1 + 1 + 1) = true := Qai.2 ⟨by omega, by omega⟩
    have hy := Qaa (S := S_TstTest) hd
    have e1 : w64 (c + 1) = c + 1 := Qae (by omega) (by omega)
    have e2 : w64 (c + 1 + 1) = c + 1 + 1 := Qae (by omega) (by omega)
    have e3 : w64 (c + 1 + 1 + 1) = c + 1 + 1 + 1 := Qae (by omega) (by omega)
    have e4 : w64 (c + 1 + 1 + 1 + 1) = c + 1 + 1 + 1 + 1 := Qae (by omega) (by omega)
    have e5 : w64 (c + 1 + 1 + 1 + 1 + 1) = c + 1 + 1 + 1 + 1 + 1 := Qae (by omega) (by omega)
    have e6 : w64 (c + 1 + 1 + 1 + 1 + 1 + 1) = c + 1 + 1 + 1 + 1 + 1 + 1 := Qae (by omega) (by omega)
    have e7 : w64 (c + 1 + 1 + 1 + 1 + 1 + 1 + 1) = c + 1 + 1 + 1 + 1 + 1 + 1 + 1 := Qae (by omega) (by omega)
    have e8 : w64 (c + 1 + 1 + 1 + 1 + 1 + 1 + 1 + 1) = c + 1 + 1 + 1 + 1 + 1 + 1 + 1 + 1 := Qae (by omega) (by omega)
    have e9 : w64 (c + 1 + 1 + 1 + 1 + 1 + 1 + 1 + 1 + 1) = c + 1 + 1 + 1 + 1 + 1 + 1 + 1 + 1 + 1 := Qae (by omega) (by omega)
    have e10 : w64 (c + 1 + 1 + 1 + 1 + 1 + 1 + 1 + 1 + 1 + 1) = c + 1 + 1 + 1 + 1 + 1 + 1 + 1 + 1 + 1 + 1 := Qae (by omega) (by omega)
    repeat
      with_reducible refine Qcw fun t e => ?_
      try simp only [hy, hr, e1, e2, e3, e4, e5, e6, e7, e8, e9, e10, List.set_set, Int.toNat_natCast] at e
      subst t
    simp only [List.length_set, h0i, Qad hi', cond_true, Qaf (show i <= 4294967296 by omega), e10]
    rw [cl_eq hp]
    simp only [Int.toNat_natCast, List.set_set]
    rfl)⟩
theorem s_g4 : C_g4 (fun x => mkPre (szL szT) x.1 x.2.1) (fun x => (hdOf (markL mkTst) x.1 x.2.1, ())) := S_g4 s_g3 fun x hx => ⟨List.length x.1 + 1, (ev_g4 _ x.1 x.2.1).trans (by
  obtain ⟨h1, h2⟩ := Qai.1 hx
  have hl : List.length x.1 <= szL szT x.1 := Qbd Qm5 x.1
  refine Qce (α := MTst) (mk := mkTst) (sz := szT) Qdw x.1 4294967296 (fun k i c => r_g4 (fun x => (hdOf (markL mkDec) x.1 x.2.1, ())) (fun x => mkPre (szL (fun _ => 2)) x.1 x.2.1) (x.1, x.2.1, ()) k pt1 (h0_g4 x.1 x.2.1 c (i : Int))) (fun k c => ?_) (fun k i y r c hd hi h0 hB => ?_) x.2.1 h1 h2
  · rw [rd0_g4]
    repeat with_reducible refine Qcw fun t e => ?_
    rw [Qab (Nat.le_refl _)]; rfl
  · have hB : c + ((10 + szL (fun _ => 2) y.2.2.2.2 : Nat) : Int) <= 4294967296 := hB
    have hp : mkPre (szL (fun _ => 2)) y.2.2.2.2 (c + 1 + 1 + 1 + 1 + 1 + 1 + 1 + 1 + 1 + 1) = true := Qai.2 ⟨by omega, by omega⟩
    have h0i : decide ((0 : Int) <= (i : Int)) = true := decide_eq_true (by omega)
    have hy := Qaa (S := S_TstTest) hd
    have e1 : w64 (c + 1) = c + 1 := Qae (by omega) (by omega)
    have e2 : w64 (c + 1 + 1) = c + 1 + 1 := Qae (by omega) (by omega)
    have e3 : w64 (c + 1 + 1 + 1) = c + 1 + 1 + 1 := Qae (by omega) (by omega)
    have e4 : w64 (c + 1 + 1 + 1 + 1) = c + 1 + 1 + 1 + 1 := Qae (by omega) (by omega)
    have e5 : w64 (c + 1 + 1 + 1 + 1 + 1) = c + 1 + 1 + 1 + 1 + 1 := Qae (by omega) (by omega)
    have e6 : w64 (c + 1 + 1 + 1 + 1 + 1 + 1) = c + 1 + 1 + 1 + 1 + 1 + 1 := Qae (by omega) (by omega)
    have e7 : w64 (c + 1 + 1 + 1 + 1 + 1 + 1 + 1) = c + 1 + 1 + 1 + 1 + 1 + 1 + 1 := Qae (by omega) (by omega)
    have e8 : w64 (c + 1 + 1 + 1 + 1 + 1 + 1 + 1 + 1) = c + 1 + 1 + 1 + 1 + 1 + 1 + 1 + 1 := Qae (by omega) (by omega)
    have e9 : w64 (c + 1 + 1 + 1 + 1 + 1 + 1 + 1 + 1 + 1) = c + 1 + 1 + 1 + 1 + 1 + 1 + 1 + 1 + 1 := Qae (by omega) (by omega)
    have e10 : w64 (c + 1 + 1 + 1 + 1 + 1 + 1 + 1 + 1 + 1 + 1) = c + 1 + 1 + 1 + 1 + 1 + 1 + 1 + 1 + 1 + 1 := Qae (by omega) (by omega)
    rw [rd0_g4]
    repeat
      with_reducible refine Qcw fun t e => ?_
      try simp only [hy, e1, e2, e3, e4, e5, e6, e7, e8, e9, e10] at e
      subst t
    simp only [h0i, Qad hi, cond_true, Qaf (show i <= 4294967296 by omega), e10]
    rw [cl_eq hp]
    have hg := Qdu.list.go y.2.2.2.2 (c + 1 + 1 + 1 + 1 + 1 + 1 + 1 + 1 + 1 + 1)
    unfold mkTst
    simp only [Qcm, Qar]
    generalize same y.1.1 _ = b1
    generalize same y.1.2.1.1 _ = b2
    generalize same y.1.2.1.2 _ = b3
    generalize same y.1.2.2.1.1 _ = b4
    generalize same y.1.2.2.1.2 _ = b5
    generalize same y.1.2.2.2 _ = b6
    generalize same y.2.1 _ = b7
    generalize same y.2.2.1.1 _ = b8
    generalize same y.2.2.1.2 _ = b9
    generalize same y.2.2.2.1 _ = b10
    rcases Qdu.list.hd (x := y.2.2.2.2) (k := c + 1 + 1 + 1 + 1 + 1 + 1 + 1 + 1 + 1 + 1) (by omega) with ⟨g1, g2, g3⟩ | ⟨g1, g2, g3⟩
    · rw [g2, g3]
      cases b1 <;> cases b2 <;> cases b3 <;> cases b4 <;> cases b5 <;> cases b6 <;> cases b7 <;> cases b8 <;> cases b9 <;> cases b10 <;> rfl
    · have e : hdOf (markL mkDec) y.2.2.2.2 (c + 1 + 1 + 1 + 1 + 1 + 1 + 1 + 1 + 1 + 1) = (markL mkDec y.2.2.2.2 (c + 1 + 1 + 1 + 1 + 1 + 1 + 1 + 1 + 1 + 1)).2 := by rw [g2, hg]
      rw [g3, e, decide_eq_false (show ¬ (markL mkDec y.2.2.2.2 (c + 1 + 1 + 1 + 1 + 1 + 1 + 1 + 1 + 1 + 1)).2 < 0 by omega)]
      cases b1 <;> try rfl
      cases b2 <;> try rfl
      cases b3 <;> try rfl
      cases b4 <;> try rfl
      cases b5 <;> try rfl
      cases b6 <;> try rfl
      cases b7 <;> try rfl
      cases b8 <;> try rfl
      cases b9 <;> try rfl
      cases b10 <;> rfl)⟩
theorem Qp2 (l : List MTst) (k : Int) : (markL mkTst l k).2 = k + szL szT l := Qdw.list.go l k
theorem Qp3 (l : List MSig) (k : Int) : (markL mkSig l k).2 = k + szL (fun _ => 3) l := Qdv.list.go l k
theorem Qry (l : List Bool) (k : Int) : (markL mkBool l k).2 = k + szL (fun _ => 1) l := Qdh.list.go l k
theorem s_fx : C_fx (fun x => mkPre (szL szB) x.1 x.2.1) (fun x => ((markL mkBat x.1 x.2.1).2, ((markL mkBat x.1 x.2.1).1, ()))) := S_fx s_fu s_fv s_fw fun x hx => ⟨List.length x.1 + 1, (ev_fx _ x.1 x.2.1).trans (by
  obtain ⟨h1, h2⟩ := Qai.1 hx
  have hl : List.length x.1 <= szL szB x.1 := Qbd Qm6 x.1
  refine Qcd (α := MBat) (mk := mkBat) (sz := szB) Qdb.go x.1 4294967296 (fun c out => some (c, (out, ()))) (fun k i c out => r_fx (fun x => ((markL mkTst x.1 x.2.1).2, ((markL mkTst x.1 x.2.1).1, ()))) (fun x => mkPre (szL szT) x.1 x.2.1) (fun x => ((markL mkSig x.1 x.2.1).2, ((markL mkSig x.1 x.2.1).1, ()))) (fun x => mkPre (szL (fun _ => 3)) x.1 x.2.1) (fun x => ((markL mkBool x.1 x.2.1).2, ((markL mkBool x.1 x.2.1).1, ()))) (fun x => mkPre (szL (fun _ => 1)) x.1 x.2.1) (x.1, x.2.1, ()) k pt1 (h0_fx x.1 x.2.1 c (i : Int) out)) (fun k c out ho => ?_) (fun k i y r c out hd hi ho h0 hB => ?_) x.2.1 h1 h2
  · rw [rd0_fx]
    repeat with_reducible refine Qcw fun t e => ?_
    rw [Qab (show out.length <= List.length x.1 by omega)]; rfl
  · have hi' : i < out.length := by omega
    have hB : c + ((3 + szL szT y.2.2.1 + szL (fun _ => 3) y.2.2.2.2.1 + szL (fun _ => 1) y.2.2.2.2.2 : Nat) : Int) <= 4294967296 := hB
    have g1 := Qp2 y.2.2.1 (c + 1 + 1)
    have g2 := Qp3 y.2.2.2.2.1 ((markL mkTst y.2.2.1 (c + 1 + 1)).2 + 1)
    rw [rd0_fx]
    have hr : ∀ y : MBat, rdL (e := S_BatBatch) (out.set i y) (i : Int) = y := fun y => Qe3 hi'
    have h0i : decide ((0 : Int) <= (i : Int)) = true := decide_eq_true (by omega)
    have hp1 : mkPre (szL szT) y.2.2.1 (c + 1 + 1) = true := Qai.2 ⟨by omega, by omega⟩
    have hp2 : mkPre (szL (fun _ => 3)) y.2.2.2.2.1 ((markL mkTst y.2.2.1 (c + 1 + 1)).2 + 1) = true := Qai.2 ⟨by omega, by omega⟩
    have hp3 : mkPre (szL (fun _ => 1)) y.2.2.2.2.2 (markL mkSig y.2.2.2.2.1 ((markL mkTst y.2.2.1 (c + 1 + 1)).2 + 1)).2 = true := Qai.2 ⟨by omega, by omega⟩
    have hy := Qaa (S := S_BatBatch) hd
    have e1 : w64 (c + 1) = c + 1 := Qae (by omega) (by omega)
    have e2 : w64 (c + 1 + 1) = c + 1 + 1 := Qae (by omega) (by omega)
    have e3 : w64 ((markL mkTst y.2.2.1 (c + 1 + 1)).2 + 1) = (markL mkTst y.2.2.1 (c + 1 + 1)).2 + 1 := Qae (by omega) (by omega)
    repeat
      with_reducible refine Qcw fun t e => ?_
      try simp only [hy, hr, e1, e2, e3, List.set_set, Int.toNat_natCast] at e
      subst t
    simp only [List.length_set, h0i, Qad hi', cond_true, Qaf (show i <= 4294967296 by omega), hp1]
    rw [cl_eq hp2]
    try dsimp only
    try simp only [Int.toNat_natCast, List.length_set, Qad hi', h0i, cond_true, hr, List.set_set]
    rw [cl_eq hp3]
    simp only [Int.toNat_natCast, List.set_set]
    rfl)⟩
theorem s_g7 : C_g7 (fun x => mkPre (szL szB) x.1 x.2.1) (fun x => (hdOf (markL mkBat) x.1 x.2.1, ())) := S_g7 s_g4 s_g5 s_g6 fun x hx => ⟨List.length x.1 + 1, (ev_g7 _ x.1 x.2.1).trans (by
  obtain ⟨h1, h2⟩ := Qai.1 hx
  have hl : List.length x.1 <= szL szB x.1 := Qbd Qm6 x.1
  refine Qce (α := MBat) (mk := mkBat) (sz := szB) Qdb x.1 4294967296 (fun k i c => r_g7 (fun x => (hdOf (markL mkTst) x.1 x.2.1, ())) (fun x => mkPre (szL szT) x.1 x.2.1) (fun x => (hdOf (markL mkSig) x.1 x.2.1, ())) (fun x => mkPre (szL (fun _ => 3)) x.1 x.2.1) (fun x => (hdOf (markL mkBool) x.1 x.2.1, ())) (fun x => mkPre (szL (fun _ => 1)) x.1 x.2.1) (x.1, x.2.1, ()) k pt1 (h0_g7 x.1 x.2.1 c (i : Int))) (fun k c => ?_) (fun k i y r c hd hi h0 hB => ?_) x.2.1 h1 h2
  · rw [rd0_g7]
    repeat with_reducible refine Qcw fun t e => ?_
    rw [Qab (Nat.le_refl _)]; rfl
  · have hB : c + ((3 + szL szT y.2.2.1 + szL (fun _ => 3) y.2.2.2.2.1 + szL (fun _ => 1) y.2.2.2.2.2 : Nat) : Int) <= 4294967296 := hB
    have g1 := Qp2 y.2.2.1 (c + 1 + 1)
    have g2 := Qp3 y.2.2.2.2.1 ((markL mkTst y.2.2.1 (c + 1 + 1)).2 + 1)
    have g3 := Qry y.2.2.2.2.2 (markL mkSig y.2.2.2.2.1 ((markL mkTst y.2.2.1 (c + 1 + 1)).2 + 1)).2
    have h0i : decide ((0 : Int) <= (i : Int)) = true := decide_eq_true (by omega)
    have hp1 : mkPre (szL szT) y.2.2.1 (c + 1 + 1) = true := Qai.2 ⟨by omega, by omega⟩
    have hp2 : mkPre (szL (fun _ => 3)) y.2.2.2.2.1 ((markL mkTst y.2.2.1 (c + 1 + 1)).2 + 1) = true := Qai.2 ⟨by omega, by omega⟩
    have hp3 : mkPre (szL (fun _ => 1)) y.2.2.2.2.2 (markL mkSig y.2.2.2.2.1 ((markL mkTst y.2.2.1 (c + 1 + 1)).2 + 1)).2 = true := Qai.2 ⟨by omega, by omega⟩
    have hy := Qaa (S := S_BatBatch) hd
    have e1 : w64 (c + 1) = c + 1 := Qae (by omega) (by omega)
    have e2 : w64 (c + 1 + 1) = c + 1 + 1 := Qae (by omega) (by omega)
    have e3 : w64 ((markL mkTst y.2.2.1 (c + 1 + 1)).2 + 1) = (markL mkTst y.2.2.1 (c + 1 + 1)).2 + 1 := Qae (by omega) (by omega)
    rw [rd0_g7]
    repeat
      with_reducible refine Qcw fun t e => ?_
      try simp only [hy, e1, e2] at e
      subst t
    simp only [h0i, Qad hi, cond_true, Qaf (show i <= 4294967296 by omega), e2]
    unfold mkBat
    simp only [Qcm, Qar]
    rw [cl_eq hp1]
    generalize same y.1 _ = b1
    generalize same y.2.1 _ = b2
    rcases Qdw.list.hd (x := y.2.2.1) (k := c + 1 + 1) (by omega) with ⟨q1, q2, q3⟩ | ⟨q1, q2, q3⟩
    · rw [q2, q3]
      cases b1 <;> cases b2 <;> rfl
    · have e : hdOf (markL mkTst) y.2.2.1 (c + 1 + 1) = (markL mkTst y.2.2.1 (c + 1 + 1)).2 := by rw [q2, g1]
      rw [q3, e, decide_eq_false (show ¬ (markL mkTst y.2.2.1 (c + 1 + 1)).2 < 0 by omega), e3, cl_eq hp2]
      cases b1
      · rfl
      cases b2
      · rfl
      generalize same y.2.2.2.1 _ = b3
      cases b3
      · rfl
      rcases Qdv.list.hd (x := y.2.2.2.2.1) (k := (markL mkTst y.2.2.1 (c + 1 + 1)).2 + 1) (by omega) with ⟨q1, q2, q3⟩ | ⟨q1, q2, q3⟩
      · rw [q2, q3]; rfl
      · have e : hdOf (markL mkSig) y.2.2.2.2.1 ((markL mkTst y.2.2.1 (c + 1 + 1)).2 + 1) = (markL mkSig y.2.2.2.2.1 ((markL mkTst y.2.2.1 (c + 1 + 1)).2 + 1)).2 := by rw [q2, g2]
        rw [q3, e, decide_eq_false (show ¬ (markL mkSig y.2.2.2.2.1 ((markL mkTst y.2.2.1 (c + 1 + 1)).2 + 1)).2 < 0 by omega), cl_eq hp3]
        rcases Qdh.list.hd (x := y.2.2.2.2.2) (k := (markL mkSig y.2.2.2.2.1 ((markL mkTst y.2.2.1 (c + 1 + 1)).2 + 1)).2) (by omega) with ⟨q1, q2, q3⟩ | ⟨q1, q2, q3⟩
        · rw [q2, q3]; rfl
        · have e : hdOf (markL mkBool) y.2.2.2.2.2 (markL mkSig y.2.2.2.2.1 ((markL mkTst y.2.2.1 (c + 1 + 1)).2 + 1)).2 = (markL mkBool y.2.2.2.2.2 (markL mkSig y.2.2.2.2.1 ((markL mkTst y.2.2.1 (c + 1 + 1)).2 + 1)).2).2 := by rw [q2, g3]
          rw [q3, e, decide_eq_false (show ¬ (markL mkBool y.2.2.2.2.2 (markL mkSig y.2.2.2.2.1 ((markL mkTst y.2.2.1 (c + 1 + 1)).2 + 1)).2).2 < 0 by omega)]
          rfl)⟩
theorem s_fy : C_fy (fun x => mkPre szH x.1 x.2.1) (fun x => ((mkHou x.1 x.2.1).2, ((mkHou x.1 x.2.1).1, ()))) := S_fy s_fq s_fs s_fx fun x hx => ⟨0, (ev_fy 0 x.1 x.2.1).trans (by
  obtain ⟨x, k, u⟩ := x
  change MHou at x
  change Int at k
  obtain ⟨h1, h2⟩ := Qai.1 hx
  have h1 : 0 <= k := h1
  have h2 : k + ((szL (fun _ => 1) x.1 + szL szS x.2.1 + szL szB x.2.2 : Nat) : Int) <= 4294967296 := h2
  dsimp only
  have g0 := Qc9.list.go x.1 k
  have g1 := Qda.list.go x.2.1 (markL mkInt x.1 k).2
  have g2 := Qdb.list.go x.2.2 (markL mkSpc x.2.1 (markL mkInt x.1 k).2).2
  rw [cl_eq (show mkPre (szL (fun _ => 1)) x.1 k = true from Qai.2 ⟨by omega, by omega⟩)]
  try dsimp only
  rw [cl_eq (show mkPre (szL szS) x.2.1 (markL mkInt x.1 k).2 = true from Qai.2 ⟨by omega, by omega⟩)]
  try dsimp only
  rw [cl_eq (show mkPre (szL szB) x.2.2 (markL mkSpc x.2.1 (markL mkInt x.1 k).2).2 = true from Qai.2 ⟨by omega, by omega⟩)]
  try dsimp only
  rfl)⟩
theorem s_g8 : C_g8 (fun x => mkPre szH x.1 x.2.1) (fun x => (hdOf mkHou x.1 x.2.1, ())) := S_g8 s_g0 s_g2 s_g7 fun x hx => ⟨0, (ev_g8 0 x.1 x.2.1).trans (by
  obtain ⟨x, k, u⟩ := x
  change MHou at x
  change Int at k
  obtain ⟨h1, h2⟩ := Qai.1 hx
  have h1 : 0 <= k := h1
  have h2 : k + ((szL (fun _ => 1) x.1 + szL szS x.2.1 + szL szB x.2.2 : Nat) : Int) <= 4294967296 := h2
  dsimp only
  have g0 := Qc9.list.go x.1 k
  have g1 := Qda.list.go x.2.1 (markL mkInt x.1 k).2
  have g2 := Qdb.list.go x.2.2 (markL mkSpc x.2.1 (markL mkInt x.1 k).2).2
  have hs : hdOf mkHou x k = bif (same x.1 (markL mkInt x.1 k).1 && (same x.2.1 (markL mkSpc x.2.1 (markL mkInt x.1 k).2).1 && (same x.2.2 (markL mkBat x.2.2 (markL mkSpc x.2.1 (markL mkInt x.1 k).2).2).1))) then (markL mkBat x.2.2 (markL mkSpc x.2.1 (markL mkInt x.1 k).2).2).2 else -1 := by
    unfold hdOf
    rw [<- Qi5 x]
    show (bif (same x.1 _ && (same x.2.1 _ && (same x.2.2 _ && true))) then _ else _) = _
    rw [Bool.and_true]; rfl
  rw [hs]
  rw [cl_eq (show mkPre (szL (fun _ => 1)) x.1 k = true from Qai.2 ⟨by omega, by omega⟩)]
  rcases Qc9.list.hd (x := x.1) (k := k) (by omega) with ⟨q1, q2, q3⟩ | ⟨q1, q2, q3⟩
  · rw [q2, q3]; rfl
  · have e : hdOf (markL mkInt) x.1 k = (markL mkInt x.1 k).2 := by rw [q2, g0]
    rw [q3, e, decide_eq_false (show ¬ (markL mkInt x.1 k).2 < 0 by omega)]
    try simp only [cond_false]
    rw [cl_eq (show mkPre (szL szS) x.2.1 (markL mkInt x.1 k).2 = true from Qai.2 ⟨by omega, by omega⟩)]
    rcases Qda.list.hd (x := x.2.1) (k := (markL mkInt x.1 k).2) (by omega) with ⟨q1, q2, q3⟩ | ⟨q1, q2, q3⟩
    · rw [q2, q3]; rfl
    · have e : hdOf (markL mkSpc) x.2.1 (markL mkInt x.1 k).2 = (markL mkSpc x.2.1 (markL mkInt x.1 k).2).2 := by rw [q2, g1]
      rw [q3, e, decide_eq_false (show ¬ (markL mkSpc x.2.1 (markL mkInt x.1 k).2).2 < 0 by omega)]
      try simp only [cond_false]
      rw [cl_eq (show mkPre (szL szB) x.2.2 (markL mkSpc x.2.1 (markL mkInt x.1 k).2).2 = true from Qai.2 ⟨by omega, by omega⟩)]
      rcases Qdb.list.hd (x := x.2.2) (k := (markL mkSpc x.2.1 (markL mkInt x.1 k).2).2) (by omega) with ⟨q1, q2, q3⟩ | ⟨q1, q2, q3⟩
      · rw [q2, q3]; rfl
      · have e : hdOf (markL mkBat) x.2.2 (markL mkSpc x.2.1 (markL mkInt x.1 k).2).2 = (markL mkBat x.2.2 (markL mkSpc x.2.1 (markL mkInt x.1 k).2).2).2 := by rw [q2, g2]
        rw [q3, e, decide_eq_false (show ¬ (markL mkBat x.2.2 (markL mkSpc x.2.1 (markL mkInt x.1 k).2).2).2 < 0 by omega)]
        try simp only [cond_false]
        rfl)⟩
theorem s_fz : C_fz (fun x => mkPre (szL (fun _ => 6)) x.1.2.2.2.2.2.2 x.2.1) (fun x => ((markL mkAsk x.1.2.2.2.2.2.2 x.2.1).2, ((x.1.1, x.1.2.1, x.1.2.2.1, x.1.2.2.2.1, x.1.2.2.2.2.1, x.1.2.2.2.2.2.1, (markL mkAsk x.1.2.2.2.2.2.2 x.2.1).1), ()))) := S_fz s_fr fun x hx => ⟨0, (ev_fz 0 x.1 x.2.1).trans (cl_eq hx)⟩

end Go.Proofs.YtjmohfahchamaaaGreat

set_option linter.unusedVariables false
set_option linter.unusedSimpArgs false
namespace Go.Proofs.YtjmohfahchamaaaGreat
open Go.Vm
theorem s_lFnExactHouDo : C_lFnExactHouDo (lawPre _) (fun _ => (true, ())) := S_lFnExactHouDo s_ab s_ac s_ar s_as s_c7 s_f9 s_fo s_fp s_fy s_fz s_g8 fun x hx => ⟨0, (ev_lFnExactHouDo 0 x.1 x.2.1).trans (by
  have hw := Qiw.1 hx
  obtain ⟨h, r, u⟩ := x
  change MHou at h
  change MReq at r
  have h1 : wfHou h = true := Bool.and_eq_true_iff.2 ⟨Qaz.2 hw.1.1.1, Bool.and_eq_true_iff.2 ⟨Bool.and_eq_true_iff.2 ⟨Qaz.2 hw.1.2.1.1, List.all_eq_true.2 fun s hs => Qaz.2 (hw.1.2.1.2 s hs).1.1⟩,
    Bool.and_eq_true_iff.2 ⟨Qaz.2 hw.1.2.2.1, List.all_eq_true.2 fun b hb => Bool.and_eq_true_iff.2 ⟨Bool.and_eq_true_iff.2 ⟨Qaz.2 (hw.1.2.2.2 b hb).2.2.1.1, List.all_eq_true.2 fun t ht => Qaz.2 ((hw.1.2.2.2 b hb).2.2.1.2 t ht).2.2.2.2.1⟩, Bool.and_eq_true_iff.2 ⟨Qaz.2 (hw.1.2.2.2 b hb).2.2.2.2.1.1, Qaz.2 (hw.1.2.2.2 b hb).2.2.2.2.2.1⟩⟩⟩⟩⟩
  have h1' : okLen (List.length r.2.2.2.2.2.2) = true := Qaz.2 hw.2.1.2.2.2.2.2.2.1
  have h2 : inq (1048576 : Int) 0 1048576 = true := rfl
  simp only [h1, h2, Bool.and_self, cond_true, cl]
  by_cases h : siHou h 1048576 < 0
  · simp only [decide_eq_true h, cond_true]
  · rename_i H
    have h0 : 0 <= siHou H 1048576 := Int.not_lt.1 h
    have hle := Qqu (h := H) (l := 1048576) (by decide)
    have hsm : houSm H = true := Qms (Int.le_refl _) h0
    have hlf := Qol (h := H) (l := 1048576) (by decide) h0
    have h4 : inq (siHou H 1048576) 0 1048576 = true := Qah.2 ⟨h0, hle⟩
    simp only [decide_eq_false h, h1', h4, Bool.and_self, cond_true, cond_false]
    by_cases h' : szN (List.length r.2.2.2.2.2.2) (siHou H 1048576) < 0
    · simp only [decide_eq_true h', cond_true]
    · have ht := Qpu hle h'
      have h5 : decide (List.length r.2.2.2.2.2.2 <= 4294967296) = true := decide_eq_true (Nat.le_trans ht (by decide))
      have h5' : smA r.2.2.2.2.2.2 = true := h5
      have hm : mkPre szH H 1 = true := Qai.2 ⟨by decide, by omega⟩
      have hgo := Qf6.go H 1
      have hm2 : mkPre (szL (fun _ => 6)) r.2.2.2.2.2.2 (mkHou H 1).2 = true := Qai.2 ⟨by omega, by rw [Qbm]; omega⟩
      have hr := Qmt H r
      have p1 : decide ((markL mkAsk r.2.2.2.2.2.2 (mkHou H 1).2).2 < 0) = false := Qct.list.pos (by omega)
      have hp : (houSm H && smA r.2.2.2.2.2.2) = true := by rw [hsm, h5']; rfl
      generalize houDo H r = R at hr
      obtain ⟨B, a⟩ := R
      obtain ⟨hr1, hr2⟩ := hr
      have hr1 : houSm B = true := hr1
      have hr2 : mkPre szH B 1 = true := hr2
      have p2 : decide ((mkHou B 1).2 < 0) = false := Qf6.pos (by decide)
      have p3 := Qf6.pre hr2
      have p4 := Qf6.held B 1
      simp only [decide_eq_false h', h5, h5', hsm, hp, hm, hm2, hr1, hr2, p1, p2, p3, p4, Qaw, beq_self_eq_true, Bool.and_self, cond_true, cond_false, decide_eq_true_eq, decide_true])⟩

end Go.Proofs.YtjmohfahchamaaaGreat
