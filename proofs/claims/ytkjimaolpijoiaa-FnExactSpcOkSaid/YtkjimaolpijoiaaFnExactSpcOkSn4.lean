/- The contracts: specifications. -/
import Derived.Test.YtkjimaolpijoiaaFnExactSpcOkSn3
set_option linter.unusedVariables false
set_option linter.unusedSimpArgs false
namespace Go.Proofs.Ytkjimaolpijoiaa
open Go.Vm

theorem s_lszSpcSpec : C_lszSpcSpec (fun x => okLen (List.length x.1.1) && inq x.2.1 0 1048576) (fun x => (szSpc x.1 x.2.1, ())) := S_lszSpcSpec s_lszSpcTestS fun x hx => ⟨0, (ev_lszSpcSpec 0 x.1 x.2.1).trans (by
  have hx : (okLen (List.length x.1.1) && inq x.2.1 0 1048576) = true := hx
  simp only [hx, cond_true]
  have key : ∀ (s : MSpc) (l : Int), 0 ≤ l → (bif decide ((if l < (s.1.length : Int) then -1 else l - (s.1.length : Int)) < (0 : Int)) then (some ((-1 : Int), ())) else (some ((if l < (s.1.length : Int) then -1 else l - (s.1.length : Int)), ()))) = some (szSpc s l, ()) := fun s l h => by
    unfold szSpc szAsk
    by_cases h1 : l < (s.1.length : Int)
    · rw [if_pos h1]; rfl
    · rw [if_neg h1, decide_eq_false (by omega)]; rfl
  exact key x.1 x.2.1 (inq_iff.1 (Bool.and_eq_true_iff.1 hx).2).1)⟩

/-- Lists that came in. -/
def wfSpcs (l : List MSpc) : Bool := okLen l.length && l.all (fun s => okLen s.1.length)
theorem s_lszSpcSpecS : C_lszSpcSpecS (fun x => wfSpcs x.1 && inq x.2.1 0 1048576) (fun x => (szList szSpc x.1 x.2.1, ())) := S_lszSpcSpecS s_lszSpcSpec fun x hx => ⟨List.length x.1 + 1, (ev_lszSpcSpecS _ x.1 x.2.1).trans (by
  obtain ⟨h1, h2⟩ := Bool.and_eq_true_iff.1 hx
  obtain ⟨h3, h4⟩ := Bool.and_eq_true_iff.1 h1
  obtain ⟨h5, h6⟩ := inq_iff.1 h2
  have h4 : ∀ s ∈ (x.1 : List MSpc), okLen s.1.length = true := fun s hs => List.all_eq_true.1 h4 s hs
  refine p_sz0 (okLen_iff.1 h3) h5 h6 fun hle => ?_
  have key : ∀ (xs : List MSpc) (l l0 : Int), xs.length ≤ 1048576 → 0 ≤ l → l ≤ 1048576 → (∀ s ∈ xs, okLen s.1.length = true) → r_lszSpcSpecS (fun x => (szSpc x.1 x.2.1, ())) (fun x => okLen (List.length x.1.1) && inq x.2.1 0 1048576) (xs, l0, ()) (xs.length + 1) [false, true, false, true, true, true] (h0_lszSpcSpecS xs l0 l ((0 : Nat) : Int)) = some (szGo szSpc xs l, ()) := fun xs l l0 hx h0 h1 hm => by
    refine sz_loop xs szSpc (fun s l h => szAsk_le _ _ h) (fun k i l => r_lszSpcSpecS _ _ (xs, l0, ()) k [false, true, false, true, true, true] (h0_lszSpcSpecS xs l0 l (i : Int))) (fun k l => ?_) (fun k i y r l hd hi g0 g1 => ?_) l h0 h1
    · rw [rd0_lszSpcSpecS, lt_false (Nat.le_refl _)]; rfl
    · rw [rd0_lszSpcSpecS, in_true hi, lt_true hi, w_succ (by omega), rdL_drop hd]
      have : (okLen (List.length y.1) && inq l 0 1048576) = true := Bool.and_eq_true_iff.2 ⟨hm y (mem_drop hd), inq_iff.2 ⟨g0, g1⟩⟩
      simp only [this, cond_true]
  have e : w64 ((x.2.1 : Int) - ((List.length x.1 : Nat) : Int)) = x.2.1 - ((List.length x.1 : Nat) : Int) := w64_eq (Int.le_trans (by decide) (Int.sub_nonneg.2 hle)) (Int.le_trans (Int.sub_le_self _ (Int.natCast_nonneg _)) (Int.le_trans h6 (by decide)))
  rw [e]
  exact key x.1 _ x.2.1 (Int.ofNat_le.1 (show ((List.length x.1 : Nat) : Int) ≤ ((1048576 : Nat) : Int) from Int.le_trans hle h6)) (Int.sub_nonneg.2 hle) (Int.le_trans (Int.sub_le_self _ (Int.natCast_nonneg _)) h6) h4)⟩

theorem s_ltoSpcSpec : C_ltoSpcSpec (fun x => smA x.1.1) (fun x => (x.1, ())) := S_ltoSpcSpec s_ltoSpcTestS fun x hx => ⟨0, (ev_ltoSpcSpec 0 x.1).trans (by
  have hx : decide (List.length x.1.1 ≤ 4294967296) = true := hx
  rw [hx]; rfl)⟩
theorem s_ltoSpcSpecS : C_ltoSpcSpecS (fun x => smS x.1) (fun x => (x.1, ())) := S_ltoSpcSpecS s_ltoSpcSpec fun x hx => ⟨List.length x.1 + 1, (ev_ltoSpcSpecS _ x.1).trans (by
  obtain ⟨h1, h2⟩ := smS_iff.1 hx
  have h1 : List.length x.1 ≤ 4294967296 := h1
  rw [p_make h1]
  refine (map_loop (α := MSpc) x.1 (fun y => y) (fun k i out => r_ltoSpcSpecS (fun x => (x.1, ())) (fun x => smA x.1.1) (x.1, ()) k [false, true, false, true, true] (h0_ltoSpcSpecS x.1 (i : Int) out)) (fun k out ho => ?_) (fun k i y r out hd hi ho => ?_) _ ?_).trans ?_
  · rw [rd0_ltoSpcSpecS, lt_false (Nat.le_refl _)]; rfl
  · have h3 : smA y.1 = true := decide_eq_true (h2 y (mem_drop hd))
    rw [rd0_ltoSpcSpecS, in_true hi, in_true (ho.symm ▸ hi), lt_true hi, w_succ (by omega), Int.toNat_natCast, rdL_drop hd]
    simp only [h3, cond_true]
  · rw [List.length_replicate]; exact Int.toNat_natCast _
  · rw [List.map_id'])⟩

theorem s_leqSpcSpec : C_leqSpcSpec (fun x => smA x.1.1) (fun x => (same x.1 x.2.1, ())) := S_leqSpcSpec s_leqSpcTestS fun x hx => ⟨0, (ev_leqSpcSpec 0 x.1 x.2.1).trans (by
  have hx : decide (List.length x.1.1 ≤ 4294967296) = true := hx
  rw [hx]
  simp only [cond_true, bif_not, bif_neg, bif_some, bif_pair, bif_and, same_int, Bool.and_true]
  exact congrArg (fun b => some (b, ())) (same_pair _ _ _ _))⟩
theorem s_leqSpcSpecS : C_leqSpcSpecS (fun x => smS x.1) (fun x => (same x.1 x.2.1, ())) := S_leqSpcSpecS s_leqSpcSpec fun x hx => ⟨List.length x.1 + 1, (ev_leqSpcSpecS _ x.1 x.2.1).trans (p_eqS fun hl => by
  obtain ⟨h1, h2⟩ := smS_iff.1 hx
  have h1 : List.length x.1 ≤ 4294967296 := h1
  refine eq_loop (α := MSpc) x.1 x.2.1 hl (fun k i => r_leqSpcSpecS (fun x => (same x.1 x.2.1, ())) (fun x => smA x.1.1) (x.1, x.2.1, ()) k [false, true, false, true, true] (h0_leqSpcSpecS x.1 x.2.1 (i : Int))) (fun k => ?_) (fun k i y z r r' hd hd' hi hi' => ?_)
  · rw [rd0_leqSpcSpecS, lt_false (Nat.le_refl _)]; rfl
  · have h3 : smA y.1 = true := decide_eq_true (h2 y (mem_drop hd))
    rw [rd0_leqSpcSpecS, in_true hi, in_true hi', lt_true hi, w_succ (by omega), rdL_drop hd, rdL_drop hd']
    simp only [h3, cond_true, bif_not, bif_neg])⟩

theorem p_sSpcOk (xs : List MSpc) (hx : xs.length ≤ 4294967296) : r_sSpcOk (fun x => (testsOk x.1, ())) (fun x => (inq x.1 x.2.1 x.2.2.1, ())) (xs, ()) (xs.length + 1) [false, true, false, true, true, true] (h0_sSpcOk xs 0 ((0 : Nat) : Int)) = some (xs.all spcOk1 && decide (force xs ≤ 1), ()) := by
  refine spcs_loop xs hx (fun c => decide (c ≤ 1)) (fun k i c => r_sSpcOk (fun x => (testsOk x.1, ())) (fun x => (inq x.1 x.2.1 x.2.2.1, ())) (xs, ()) k [false, true, false, true, true, true] (h0_sSpcOk xs c (i : Int))) (fun k c => ?_) (fun k i x r c hd hi h0 h1 => ?_)
  · rw [rd0_sSpcOk, lt_false (Nat.le_refl _)]; rfl
  · rw [rd0_sSpcOk, in_true hi, lt_true hi, w_succ (by omega), rdL_drop hd, w64_eq (x := c + 1) (by omega) (by omega)]
    unfold spcOk1
    cases testsOk x.1 <;> cases inq x.2 1 3 <;> rfl
theorem s_sSpcOk : C_sSpcOk (fun _ => true) (fun x => (spcsOk x.1, ())) := S_sSpcOk s_sSpcTestsOk s_sl1In fun x hx => ⟨List.length x.1 + 1, (ev_sSpcOk _ x.1).trans (by
  have key : ∀ xs : List MSpc, (bif decide ((6 : Int) < (xs.length : Int)) then some (false, ()) else r_sSpcOk (fun x => (testsOk x.1, ())) (fun x => (inq x.1 x.2.1 x.2.2.1, ())) (xs, ()) (xs.length + 1) [false, true, false, true, true, true] (h0_sSpcOk xs 0 ((0 : Nat) : Int))) = some (spcsOk xs, ()) := fun xs => by
    unfold spcsOk
    by_cases h : (6 : Int) < (xs.length : Int)
    · rw [decide_eq_true h, decide_eq_false (by omega)]; rfl
    · rw [decide_eq_false h, decide_eq_true (by omega)]; exact p_sSpcOk xs (by omega)
  exact key x.1)⟩
theorem p_iSpcOk (xs : List MSpc) (hx : xs.length ≤ 4294967296) (hs : ∀ s ∈ xs, s.1.length ≤ 4294967296) : r_iSpcOk (fun x => (testsOk x.1, ())) (fun x => decide (List.length x.1 ≤ 4294967296)) (fun x => (inq x.1 x.2.1 x.2.2.1, ())) (xs, ()) (xs.length + 1) [false, true, false, true, true] (h0_iSpcOk xs 0 (xs.length : Int) ((0 : Nat) : Int)) = some (xs.all spcOk1 && (decide (xs.length ≤ 6) && decide (force xs ≤ 1)), ()) := by
  refine spcs_loop xs hx (fun c => decide (xs.length ≤ 6) && decide (c ≤ 1)) (fun k i c => r_iSpcOk (fun x => (testsOk x.1, ())) (fun x => decide (List.length x.1 ≤ 4294967296)) (fun x => (inq x.1 x.2.1 x.2.2.1, ())) (xs, ()) k [false, true, false, true, true] (h0_iSpcOk xs c (xs.length : Int) (i : Int))) (fun k c => ?_) (fun k i x r c hd hi h0 h1 => ?_)
  · rw [rd0_iSpcOk, lt_false (Nat.le_refl _)]
    by_cases h : xs.length ≤ 6
    · rw [decide_eq_true h, decide_eq_true (show ((xs.length : Int)) ≤ 6 by omega)]; rfl
    · rw [decide_eq_false h, decide_eq_false (show ¬ ((xs.length : Int)) ≤ 6 by omega)]; rfl
  · have h3 : decide (x.1.length ≤ 4294967296) = true := decide_eq_true (hs x (mem_drop hd))
    rw [rd0_iSpcOk, in_true hi, lt_true hi, w_succ (by omega), rdL_drop hd, w64_eq (x := c + 1) (by omega) (by omega)]
    simp only [h3]
    unfold spcOk1
    cases testsOk x.1 <;> cases inq x.2 1 3 <;> rfl
theorem s_iSpcOk : C_iSpcOk (fun x => smS x.1) (fun x => (spcsOk x.1, ())) := S_iSpcOk s_iSpcTestsOk s_iin fun x hx => ⟨_, (ev_iSpcOk _ x.1).trans ((p_iSpcOk x.1 (smS_iff.1 hx).1 (smS_iff.1 hx).2).trans (by
  unfold spcsOk; rw [Bool.and_left_comm]))⟩

end Go.Proofs.Ytkjimaolpijoiaa
