/- CerOk of the program returns what the reference's returns. -/
import Derived.Test.YtkjimaolpijoiaaFnExactCerOkSn7
set_option linter.unusedVariables false
set_option linter.unusedSimpArgs false
namespace Go.Proofs.Ytkjimaolpijoiaa
open Go.Vm
def cerLen (c : MCer) : Bool := decide (c.2.1.length ≤ 4294967296) && decide (c.2.2.1.length ≤ 4294967296)
theorem s_sCerOk : C_sCerOk (fun x => cerLen x.1) (fun x => (cerOk x.1, ())) := S_sCerOk s_sl1In s_sSpcTestsOk s_sDecOk s_sSpcIn fun x hx => ⟨List.length x.1.2.2.1 + 1, (ev_sCerOk _ x.1).trans (by
  have key : ∀ c : MCer, cerLen c = true → (bif (bif inq c.1 0 5 then false else true) then (some (false, ())) else (bif (bif testsOk c.2.1 then false else true) then (some (false, ())) else (bif (bif (decide ((List.length c.2.2.1 : Int) = (List.length c.2.1 : Int))) then false else true) then (some (false, ())) else (bif (bif inq c.2.2.2.1 1 5 then false else true) then (some (false, ())) else (bif (bif inq c.2.2.2.2 1 5 then false else true) then (some (false, ())) else (bif (decide (c.2.2.2.1 = c.2.2.2.2)) then (some (false, ())) else
      (r_sCerOk (fun x => (inq x.1 x.2.1 x.2.2.1, ())) (fun x => (testsOk x.1, ())) (fun x => (decOk x.1, ())) (fun x => (spcIn x.1 x.2.1, ())) (c, ()) (c.2.2.1.length + 1) [false, true, false, true, true] (h0_sCerOk c ((0 : Nat) : Int))))))))) = some (cerOk c, ()) := fun c hc => by
    have hlen : c.2.2.1.length ≤ 4294967296 := of_decide_eq_true (Bool.and_eq_true_iff.1 hc).2
    unfold cerOk
    cases inq c.1 0 5
    · rfl
    · cases testsOk c.2.1
      · rfl
      · by_cases hl : c.2.2.1.length = c.2.1.length
        · rw [decide_eq_true hl, decide_eq_true (show (List.length c.2.2.1 : Int) = (List.length c.2.1 : Int) by omega)]
          cases inq c.2.2.2.1 1 5
          · simp only [Bool.false_and, Bool.and_false]; rfl
          · cases inq c.2.2.2.2 1 5
            · simp only [Bool.false_and, Bool.and_false]; rfl
            · cases decide (c.2.2.2.1 = c.2.2.2.2)
              · refine (vals_loop c.2.1 c.2.2.1 hl true (fun k i => r_sCerOk (fun x => (inq x.1 x.2.1 x.2.2.1, ())) (fun x => (testsOk x.1, ())) (fun x => (decOk x.1, ())) (fun x => (spcIn x.1 x.2.1, ())) (c, ()) k [false, true, false, true, true] (h0_sCerOk c (i : Int))) (fun k => ?_) (fun k i t v r r' hd hd' hi hi' => ?_)).trans ?_
                · rw [rd0_sCerOk, lt_false (Nat.le_refl _)]; rfl
                · rw [rd0_sCerOk, in_true hi, in_true hi', lt_true hi, w_succ (by omega), rdL_drop hd', rdL_drop hd]
                  cases ho : decOk v
                  · have : spcIn t v = false := Bool.eq_false_iff.2 fun h => by rw [spcIn_dec h] at ho; cases ho
                    rw [this, Bool.and_false]; rfl
                  · cases decide (v.2 = t.2.2.2) <;> cases spcIn t v <;> rfl
                · simp only [Bool.and_true, Bool.true_and, Bool.not_false]
              · simp only [Bool.false_and, Bool.and_false, Bool.not_true]; rfl
        · rw [decide_eq_false hl, decide_eq_false (show ¬ (List.length c.2.2.1 : Int) = (List.length c.2.1 : Int) by omega)]; rfl
  exact key x.1 hx)⟩
theorem s_iCerOk : C_iCerOk (fun x => cerLen x.1) (fun x => (cerOk x.1, ())) := S_iCerOk s_iin s_iSpcTestsOk s_iSpcIn s_iisUser fun x hx => ⟨List.length x.1.2.2.1 + 1, (ev_iCerOk _ x.1).trans (by
  have key : ∀ c : MCer, cerLen c = true → (bif (bif inq c.1 0 5 then false else true) then (some (false, ())) else (bif decide (c.2.1.length ≤ 4294967296) then (bif (bif testsOk c.2.1 then false else true) then (some (false, ())) else (bif (bif (decide ((List.length c.2.2.1 : Int) = (List.length c.2.1 : Int))) then false else true) then (some (false, ())) else
      (r_iCerOk (fun x => (inq x.1 x.2.1 x.2.2.1, ())) (fun x => (testsOk x.1, ())) (fun x => decide (List.length x.1 ≤ 4294967296)) (fun x => (spcIn x.1 x.2.1, ())) (fun x => (inq x.1 1 5, ())) (c, ()) (c.2.2.1.length + 1) [false, true, false, true, true] (h0_iCerOk c (List.length c.2.2.1 : Int) ((0 : Nat) : Int))))) else none)) = some (cerOk c, ()) := fun c hc => by
    have hlen : c.2.2.1.length ≤ 4294967296 := of_decide_eq_true (Bool.and_eq_true_iff.1 hc).2
    rw [(Bool.and_eq_true_iff.1 hc).1]
    unfold cerOk
    cases inq c.1 0 5
    · rfl
    · cases testsOk c.2.1
      · rfl
      · by_cases hl : c.2.2.1.length = c.2.1.length
        · rw [decide_eq_true hl, decide_eq_true (show (List.length c.2.2.1 : Int) = (List.length c.2.1 : Int) by omega)]
          refine (vals_loop c.2.1 c.2.2.1 hl (inq c.2.2.2.1 1 5 && (inq c.2.2.2.2 1 5 && !decide (c.2.2.2.1 = c.2.2.2.2))) (fun k i => r_iCerOk (fun x => (inq x.1 x.2.1 x.2.2.1, ())) (fun x => (testsOk x.1, ())) (fun x => decide (List.length x.1 ≤ 4294967296)) (fun x => (spcIn x.1 x.2.1, ())) (fun x => (inq x.1 1 5, ())) (c, ()) k [false, true, false, true, true] (h0_iCerOk c (List.length c.2.2.1 : Int) (i : Int))) (fun k => ?_) (fun k i t v r r' hd hd' hi hi' => ?_)).trans ?_
          · rw [rd0_iCerOk, lt_false (Nat.le_refl _)]
            cases inq c.2.2.2.1 1 5 <;> cases inq c.2.2.2.2 1 5 <;> cases decide (c.2.2.2.1 = c.2.2.2.2) <;> rfl
          · rw [rd0_iCerOk, in_true hi, in_true hi', lt_true hi, w_succ (by omega), rdL_drop hd', rdL_drop hd]
            cases decide (v.2 = t.2.2.2) <;> cases spcIn t v <;> rfl
          · simp only [Bool.true_and]
        · rw [decide_eq_false hl, decide_eq_false (show ¬ (List.length c.2.2.1 : Int) = (List.length c.2.1 : Int) by omega)]; rfl
  exact key x.1 hx)⟩
theorem s_lszCerCer : C_lszCerCer (fun x => (okLen (List.length x.1.2.1) && okLen (List.length x.1.2.2.1)) && inq x.2.1 0 1048576) (fun x => (if szN (List.length x.1.2.1) x.2.1 < 0 then -1 else szN (List.length x.1.2.2.1) (szN (List.length x.1.2.1) x.2.1), ())) := S_lszCerCer s_lszSpcTestS s_lszDecDecS fun x hx => ⟨0, (ev_lszCerCer 0 x.1 x.2.1).trans (by
  obtain ⟨h12, h3⟩ := Bool.and_eq_true_iff.1 hx
  obtain ⟨h1, h2⟩ := Bool.and_eq_true_iff.1 h12
  have h3 : inq x.2.1 0 1048576 = true := h3
  have g := inq_iff.1 h3
  have key : ∀ (n m : Nat) (l : Int), okLen n = true → okLen m = true → inq l 0 1048576 = true → (bif (okLen n && inq l 0 1048576) then (bif (decide (szN n l < (0 : Int))) then (some ((-1 : Int), ())) else (bif (okLen m && inq (szN n l) 0 1048576) then (bif (decide (szN m (szN n l) < (0 : Int))) then (some ((-1 : Int), ())) else (some (szN m (szN n l), ()))) else none)) else none) = some (if szN n l < 0 then -1 else szN m (szN n l), ()) := fun n m l hn hm hl => by
    have g := inq_iff.1 hl
    simp only [hn, hm, hl, Bool.and_self, Bool.true_and, cond_true]
    by_cases h : szN n l < 0
    · rw [if_pos h, decide_eq_true h]; rfl
    · have hin : inq (szN n l) 0 1048576 = true := inq_iff.2 ⟨by omega, by unfold szN at h ⊢; split <;> omega⟩
      rw [if_neg h, decide_eq_false h, hin]
      by_cases h' : szN m (szN n l) < 0
      · have : szN m (szN n l) = -1 := by
          have h0 := inq_iff.1 hin
          unfold szN at h' ⊢; split at h' <;> (try omega)
        rw [decide_eq_true h', this]; rfl
      · rw [decide_eq_false h']; rfl
  exact key _ _ _ h1 h2 h3)⟩
theorem s_lFnExactCerOk : C_lFnExactCerOk (lawPre _) (fun _ => (true, ())) := S_lFnExactCerOk s_lszCerCer s_ltoCerCer s_sCerOk s_iCerOk s_leqCerCer fun x hx => ⟨0, (ev_lFnExactCerOk 0 x.1).trans (by
  have hw := (lawPre_iff.1 hx).1
  have h1 : okLen (List.length x.1.2.1) = true := okLen_iff.2 hw.2.1.1
  have h1' : okLen (List.length x.1.2.2.1) = true := okLen_iff.2 hw.2.2.1.1
  have h2 : inq (1048576 : Int) 0 1048576 = true := rfl
  simp only [h1, h1', h2, Bool.and_self, cond_true]
  by_cases h : szN (List.length x.1.2.1) 1048576 < 0
  · simp only [if_pos h]; rfl
  · simp only [if_neg h]
    by_cases h' : szN (List.length x.1.2.2.1) (szN (List.length x.1.2.1) 1048576) < 0
    · simp only [decide_eq_true h', cond_true]
    · have hle : szN (List.length x.1.2.1) 1048576 ≤ 1048576 := by unfold szN; split <;> omega
      have h3 : decide (List.length x.1.2.1 ≤ 4294967296) = true := decide_eq_true (Nat.le_trans (szN_small (Int.le_refl _) h) (by decide))
      have h4 : decide (List.length x.1.2.2.1 ≤ 4294967296) = true := decide_eq_true (Nat.le_trans (szN_small hle h') (by decide))
      have h5 : cerLen x.1 = true := Bool.and_eq_true_iff.2 ⟨h3, h4⟩
      simp only [decide_eq_false h', h3, h4, h5, same_self, beq_self_eq_true, Bool.and_self, cond_true, cond_false])⟩

end Go.Proofs.Ytkjimaolpijoiaa
