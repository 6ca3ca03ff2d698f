/- The contracts: asks in lists; what compares, what copies. -/
import Derived.Test.YtkjimaolpijoiaaFnExactCerOkSn2
set_option linter.unusedVariables false
set_option linter.unusedSimpArgs false
namespace Go.Proofs.Ytkjimaolpijoiaa
open Go.Vm

theorem s_ltoDecDec : C_ltoDecDec (fun _ => true) (fun x => (x.1, ())) := S_ltoDecDec fun x _ => ⟨0, ev_ltoDecDec 0 x.1⟩
theorem s_ltoSpcTest : C_ltoSpcTest (fun _ => true) (fun x => (x.1, ())) := S_ltoSpcTest s_ltoDecDec fun x _ => ⟨0, ev_ltoSpcTest 0 x.1⟩

theorem p_iSpcTestsOk (xs : List MAsk) (hx : xs.length ≤ 4294967296) : r_iSpcTestsOk (fun x => (askOk x.1, ())) (fun x => (inq x.1 x.2.1 x.2.2.1, ())) (xs, ()) (xs.length + 1) [false, true, false, true] (h0_iSpcTestsOk xs (xs.length : Int) ((0 : Nat) : Int)) = some (asksOk none xs && inq xs.length 1 4, ()) := by
  refine asks_loop xs hx (inq xs.length 1 4) (fun k i => r_iSpcTestsOk (fun x => (askOk x.1, ())) (fun x => (inq x.1 x.2.1 x.2.2.1, ())) (xs, ()) k [false, true, false, true] (h0_iSpcTestsOk xs (xs.length : Int) (i : Int))) (fun k => ?_) (fun k i x r hd hi => ?_)
  · rw [rd0_iSpcTestsOk, lt_false (Nat.le_refl _)]; rfl
  · rw [rd0_iSpcTestsOk, in_true hi, lt_true hi, w_succ (by omega)]
    exact asks_step hx hd hi _ (fun j => rdL (e := S_SpcTest) xs j) (fun j hj => rd_asks j hj)
theorem s_iSpcTestsOk : C_iSpcTestsOk (fun x => decide (List.length x.1 ≤ 4294967296)) (fun x => (testsOk x.1, ())) := S_iSpcTestsOk s_iSpcTest_ok s_iin fun x hx => ⟨_, (ev_iSpcTestsOk _ x.1).trans ((p_iSpcTestsOk x.1 (of_decide_eq_true hx)).trans (by
  unfold testsOk; rw [Bool.and_comm]))⟩

theorem p_sSpcTestsOk (xs : List MAsk) (hx : xs.length ≤ 4294967296) : r_sSpcTestsOk (fun x => (inq x.1 x.2.1 x.2.2.1, ())) (fun x => (askOk x.1, ())) (xs, ()) (xs.length + 1) [false, true, false, true, true] (h0_sSpcTestsOk xs ((0 : Nat) : Int)) = some (asksOk none xs && true, ()) := by
  refine asks_loop xs hx true (fun k i => r_sSpcTestsOk (fun x => (inq x.1 x.2.1 x.2.2.1, ())) (fun x => (askOk x.1, ())) (xs, ()) k [false, true, false, true, true] (h0_sSpcTestsOk xs (i : Int))) (fun k => ?_) (fun k i x r hd hi => ?_)
  · rw [rd0_sSpcTestsOk, lt_false (Nat.le_refl _)]; rfl
  · rw [rd0_sSpcTestsOk, in_true hi, lt_true hi, w_succ (by omega)]
    exact asks_step hx hd hi _ (fun j => rdL (e := S_SpcTest) xs j) (fun j hj => rd_asks j hj)
theorem s_sSpcTestsOk : C_sSpcTestsOk (fun _ => true) (fun x => (testsOk x.1, ())) := S_sSpcTestsOk s_sl1In s_sl3Test fun x _ => ⟨List.length x.1 + 1, (ev_sSpcTestsOk _ x.1).trans (by
  unfold testsOk
  cases h : inq (List.length x.1) 1 4
  · rfl
  · have := inq_iff.1 h
    refine (p_sSpcTestsOk x.1 (by omega)).trans ?_
    rw [Bool.and_true]; rfl)⟩

theorem s_lszSpcTestS : C_lszSpcTestS (fun x => okLen (List.length x.1) && inq x.2.1 0 1048576) (fun x => (if x.2.1 < (List.length x.1 : Int) then -1 else x.2.1 - (List.length x.1 : Int), ())) := S_lszSpcTestS fun x hx => ⟨0, (ev_lszSpcTestS 0 x.1 x.2.1).trans (by
  have key : ∀ (n : Nat) (l : Int), n ≤ 9223372036854775807 → 0 ≤ l → l ≤ 1048576 → (bif (decide ((w64 (l - (n : Int))) < (0 : Int))) then (some ((-1 : Int), ())) else (some ((w64 (l - (n : Int))), ()))) = some (if l < (n : Int) then -1 else l - (n : Int), ()) := fun n l h1 h2 h3 => by
    rw [w64_eq (by omega) (by omega)]
    by_cases h : l < n
    · rw [if_pos h, decide_eq_true (by omega)]; rfl
    · rw [if_neg h, decide_eq_false (by omega)]; rfl
  have h := Bool.and_eq_true_iff.1 hx
  have h2 := inq_iff.1 h.2
  exact key _ _ (okLen_iff.1 h.1) h2.1 h2.2)⟩

theorem p_make {n : Nat} {α : Type} {X : Option α} (h : n ≤ 4294967296) : (bif (bif (bif (decide ((0 : Int) ≤ (n : Int))) then (decide ((n : Int) ≤ (BIG : Int))) else false) then (decide ((n : Int) = (n : Int))) else false) then X else none) = X := by
  rw [decide_eq_true (show (0 : Int) ≤ (n : Int) by omega), decide_eq_true (show (n : Int) ≤ (BIG : Int) by show (n : Int) ≤ ((4294967296 : Nat) : Int); omega), decide_eq_true rfl]; rfl

theorem s_ltoSpcTestS : C_ltoSpcTestS (fun x => decide (List.length x.1 ≤ 4294967296)) (fun x => (x.1, ())) := S_ltoSpcTestS s_ltoSpcTest fun x hx => ⟨List.length x.1 + 1, (ev_ltoSpcTestS _ x.1).trans (by
  have hx : List.length x.1 ≤ 4294967296 := of_decide_eq_true hx
  rw [p_make hx]
  refine (map_loop (α := MAsk) x.1 (fun y => y) (fun k i out => r_ltoSpcTestS (fun x => (x.1, ())) (x.1, ()) k [false, true, false, true, true] (h0_ltoSpcTestS x.1 (i : Int) out)) (fun k out ho => ?_) (fun k i y r out hd hi ho => ?_) _ ?_).trans ?_
  · rw [rd0_ltoSpcTestS, lt_false (Nat.le_refl _)]; rfl
  · rw [rd0_ltoSpcTestS, in_true hi, in_true (ho.symm ▸ hi), lt_true hi, w_succ (by omega), Int.toNat_natCast, rdL_drop hd]; rfl
  · rw [List.length_replicate]; exact Int.toNat_natCast _
  · rw [List.map_id'])⟩

theorem s_leqDecDec : C_leqDecDec (fun _ => true) (fun x => (same x.1 x.2.1, ())) := S_leqDecDec fun x _ => ⟨0, (ev_leqDecDec 0 x.1 x.2.1).trans (by
  simp only [bif_not, bif_neg, bif_some, bif_pair, bif_and, same_int, Bool.and_true]
  exact congrArg (fun b => some (b, ())) (same_pair _ _ _ _))⟩
theorem s_leqSpcTest : C_leqSpcTest (fun _ => true) (fun x => (same x.1 x.2.1, ())) := S_leqSpcTest s_leqDecDec fun x _ => ⟨0, (ev_leqSpcTest 0 x.1 x.2.1).trans (by
  simp only [bif_not, bif_neg, bif_some, bif_pair, bif_and, same_int, Bool.and_true]
  refine congrArg (fun b => some (b, ())) ?_
  rw [same_pair, same_pair, same_pair])⟩

/-- Two rows of one length, and the loop over them. -/
theorem p_eqS {α : Type} {xs ys : List α} {X : Option (Bool × Unit)} (h : xs.length = ys.length → X = some (same xs ys, ())) : (bif (bif (decide ((xs.length : Int) = (ys.length : Int))) then false else true) then (some (false, ())) else X) = some (same xs ys, ()) := by
  by_cases hl : xs.length = ys.length
  · rw [decide_eq_true (by omega)]; exact h hl
  · rw [decide_eq_false (by omega), same_false fun e => hl (by rw [e])]; rfl

theorem s_leqSpcTestS : C_leqSpcTestS (fun x => decide (List.length x.1 ≤ 4294967296)) (fun x => (same x.1 x.2.1, ())) := S_leqSpcTestS s_leqSpcTest fun x hx => ⟨List.length x.1 + 1, (ev_leqSpcTestS _ x.1 x.2.1).trans (p_eqS fun hl => by
  have hx : List.length x.1 ≤ 4294967296 := of_decide_eq_true hx
  refine eq_loop (α := MAsk) x.1 x.2.1 hl (fun k i => r_leqSpcTestS (fun x => (same x.1 x.2.1, ())) (x.1, x.2.1, ()) k [false, true, false, true, true] (h0_leqSpcTestS x.1 x.2.1 (i : Int))) (fun k => ?_) (fun k i y z r r' hd hd' hi hi' => ?_)
  · rw [rd0_leqSpcTestS, lt_false (Nat.le_refl _)]; rfl
  · rw [rd0_leqSpcTestS, in_true hi, in_true hi', lt_true hi, w_succ (by omega), rdL_drop hd, rdL_drop hd', bif_not, bif_neg]; rfl)⟩

end Go.Proofs.Ytkjimaolpijoiaa
