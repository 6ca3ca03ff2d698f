/- The contracts: specifications. -/
import Derived.Test.YtkjimaolpijoiaaFnSpcRaiseSn3
set_option linter.unusedVariables false
set_option linter.unusedSimpArgs false
namespace Go.Proofs.Ytkjimaolpijoiaa
open Go.Vm

/-- Lists that came in. -/
def wfSpcs (l : List MSpc) : Bool := okLen l.length && l.all (fun s => okLen s.1.length)
theorem p_sSpcOk (xs : List MSpc) (hx : xs.length ≤ 4294967296) : r_sSpcOk (fun x => (testsOk x.1, ())) (fun x => (inq x.1 x.2.1 x.2.2.1, ())) (xs, ()) (xs.length + 1) [false, true, false, true, true, true] (h0_sSpcOk xs 0 ((0 : Nat) : Int)) = some (xs.all spcOk1 && decide (force xs ≤ 1), ()) := by
  refine spcs_loop xs hx (fun c => decide (c ≤ 1)) (fun k i c => r_sSpcOk (fun x => (testsOk x.1, ())) (fun x => (inq x.1 x.2.1 x.2.2.1, ())) (xs, ()) k [false, true, false, true, true, true] (h0_sSpcOk xs c (i : Int))) (fun k c => ?_) (fun k i x r c hd hi h0 h1 => ?_)
  · rw [rd0_sSpcOk, lt_false (Nat.le_refl _)]; rfl
  · rw [rd0_sSpcOk, in_true hi, lt_true hi, w_succ (by omega), rdL_drop hd, w64_eq (x := c + 1) (by omega) (by omega)]
    unfold spcOk1
    cases testsOk x.1 <;> cases inq x.2 1 3 <;> rfl
theorem s_sSpcOk : C_sSpcOk (fun _ => true) (fun x => (spcsOk x.1, ())) := S_sSpcOk s_sSpcTestsOk s_sl1In fun x hx => ⟨List.length x.1 + 1, (ev_sSpcOk _ x.1).trans (by
  have key : ∀ xs : List MSpc, (bif decide ((6 : Int) < (xs.length : Int)) then some (false, ()) else r_sSpcOk (fun x => (testsOk x.1, ())) (fun x => (inq x.1 x.2.1 x.2.2.1, ())) (xs, ()) (xs.length + 1) [false, true, false, true, true, true] (h0_sSpcOk xs 0 ((0 : Nat) : Int))) = some (spcsOk xs, ()) := fun xs => by
    unfold spcsOk
    by_cases h : (6 : Int) < (xs.length : Int)
    · rw [decide_eq_true h, decide_eq_false (by omega)]; rfl
    · rw [decide_eq_false h, decide_eq_true (by omega)]; exact p_sSpcOk xs (by omega)
  exact key x.1)⟩
theorem p_iSpcOk (xs : List MSpc) (hx : xs.length ≤ 4294967296) (hs : ∀ s ∈ xs, s.1.length ≤ 4294967296) : r_iSpcOk (fun x => (testsOk x.1, ())) (fun x => decide (List.length x.1 ≤ 4294967296)) (fun x => (inq x.1 x.2.1 x.2.2.1, ())) (xs, ()) (xs.length + 1) [false, true, false, true, true] (h0_iSpcOk xs 0 (xs.length : Int) ((0 : Nat) : Int)) = some (xs.all spcOk1 && (decide (xs.length ≤ 6) && decide (force xs ≤ 1)), ()) := by
  refine spcs_loop xs hx (fun c => decide (xs.length ≤ 6) && decide (c ≤ 1)) (fun k i c => r_iSpcOk (fun x => (testsOk x.1, ())) (fun x => decide (List.length x.1 ≤ 4294967296)) (fun x => (inq x.1 x.2.1 x.2.2.1, ())) (xs, ()) k [false, true, false, true, true] (h0_iSpcOk xs c (xs.length : Int) (i : Int))) (fun k c => ?_) (fun k i x r c hd hi h0 h1 => ?_)
  · rw [rd0_iSpcOk, lt_false (Nat.le_refl _)]
    by_cases h : xs.length ≤ 6
    · rw [decide_eq_true h, decide_eq_true (show ((xs.length : Int)) ≤ 6 by omega)]; rfl
    · rw [decide_eq_false h, decide_eq_false (show ¬ ((xs.length : Int)) ≤ 6 by omega)]; rfl
  · have h3 : decide (x.1.length ≤ 4294967296) = true := decide_eq_true (hs x (mem_drop hd))
    rw [rd0_iSpcOk, in_true hi, lt_true hi, w_succ (by omega), rdL_drop hd, w64_eq (x := c + 1) (by omega) (by omega)]
    simp only [h3]
    unfold spcOk1
    cases testsOk x.1 <;> cases inq x.2 1 3 <;> rfl
theorem s_iSpcOk : C_iSpcOk (fun x => smS x.1) (fun x => (spcsOk x.1, ())) := S_iSpcOk s_iSpcTestsOk s_iin fun x hx => ⟨_, (ev_iSpcOk _ x.1).trans ((p_iSpcOk x.1 (smS_iff.1 hx).1 (smS_iff.1 hx).2).trans (by
  unfold spcsOk; rw [Bool.and_left_comm]))⟩

end Go.Proofs.Ytkjimaolpijoiaa
