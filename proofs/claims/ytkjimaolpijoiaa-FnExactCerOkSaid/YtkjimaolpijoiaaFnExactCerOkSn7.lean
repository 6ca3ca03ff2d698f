/- The contracts: sizes, copies, comparings of tests. -/
import Derived.Test.YtkjimaolpijoiaaFnExactCerOkSn6
set_option linter.unusedVariables false
set_option linter.unusedSimpArgs false
namespace Go.Proofs.Ytkjimaolpijoiaa
open Go.Vm

theorem p_szLen (n : Nat) (l : Int) (h1 : n ≤ 9223372036854775807) (h2 : 0 ≤ l) (h3 : l ≤ 1048576) : (bif (decide ((w64 (l - (n : Int))) < (0 : Int))) then (some ((-1 : Int), ())) else (some ((w64 (l - (n : Int))), ()))) = some (if l < (n : Int) then -1 else l - (n : Int), ()) := by
  rw [w64_eq (by omega) (by omega)]
  by_cases h : l < n
  · rw [if_pos h, decide_eq_true (by omega)]; rfl
  · rw [if_neg h, decide_eq_false (by omega)]; rfl
theorem p_szPass (n : Nat) (l : Int) (h : 0 ≤ l) : (bif decide ((if l < (n : Int) then -1 else l - (n : Int)) < (0 : Int)) then (some ((-1 : Int), ())) else (some ((if l < (n : Int) then -1 else l - (n : Int)), ()))) = some ((if l < (n : Int) then -1 else l - (n : Int)), ()) := by
  by_cases h1 : l < (n : Int)
  · rw [if_pos h1]; rfl
  · rw [if_neg h1, decide_eq_false (by omega)]; rfl
/-- What is left behind so many. -/
def szN (n : Nat) (l : Int) : Int := if l < (n : Int) then -1 else l - (n : Int)
theorem s_lszDecDecS : C_lszDecDecS (fun x => okLen (List.length x.1) && inq x.2.1 0 1048576) (fun x => (szN (List.length x.1) x.2.1, ())) := S_lszDecDecS fun x hx => ⟨0, (ev_lszDecDecS 0 x.1 x.2.1).trans (by
  have h := Bool.and_eq_true_iff.1 hx
  have h2 := inq_iff.1 h.2
  exact p_szLen _ _ (okLen_iff.1 h.1) h2.1 h2.2)⟩
theorem szN_small {n : Nat} {l : Int} (h : l ≤ 1048576) (h2 : ¬ szN n l < 0) : n ≤ 1048576 := by
  unfold szN at h2; split at h2 <;> omega

theorem s_ltoDecDecS : C_ltoDecDecS (fun x => decide (List.length x.1 ≤ 4294967296)) (fun x => (x.1, ())) := S_ltoDecDecS s_ltoDecDec fun x hx => ⟨List.length x.1 + 1, (ev_ltoDecDecS _ x.1).trans (by
  have hx : List.length x.1 ≤ 4294967296 := of_decide_eq_true hx
  rw [p_make hx]
  refine (map_loop (α := MDec) x.1 (fun y => y) (fun k i out => r_ltoDecDecS (fun x => (x.1, ())) (x.1, ()) k [false, true, false, true, true] (h0_ltoDecDecS x.1 (i : Int) out)) (fun k out ho => ?_) (fun k i y r out hd hi ho => ?_) _ ?_).trans ?_
  · rw [rd0_ltoDecDecS, lt_false (Nat.le_refl _)]; rfl
  · rw [rd0_ltoDecDecS, in_true hi, in_true (ho.symm ▸ hi), lt_true hi, w_succ (by omega), Int.toNat_natCast, rdL_drop hd]; rfl
  · rw [List.length_replicate]; exact Int.toNat_natCast _
  · rw [List.map_id'])⟩
theorem s_leqDecDecS : C_leqDecDecS (fun x => decide (List.length x.1 ≤ 4294967296)) (fun x => (same x.1 x.2.1, ())) := S_leqDecDecS s_leqDecDec fun x hx => ⟨List.length x.1 + 1, (ev_leqDecDecS _ x.1 x.2.1).trans (p_eqS fun hl => by
  have hx : List.length x.1 ≤ 4294967296 := of_decide_eq_true hx
  refine eq_loop (α := MDec) x.1 x.2.1 hl (fun k i => r_leqDecDecS (fun x => (same x.1 x.2.1, ())) (x.1, x.2.1, ()) k [false, true, false, true, true] (h0_leqDecDecS x.1 x.2.1 (i : Int))) (fun k => ?_) (fun k i y z r r' hd hd' hi hi' => ?_)
  · rw [rd0_leqDecDecS, lt_false (Nat.le_refl _)]; rfl
  · rw [rd0_leqDecDecS, in_true hi, in_true hi', lt_true hi, w_succ (by omega), rdL_drop hd, rdL_drop hd', bif_not, bif_neg]; rfl)⟩
theorem s_iisUser : C_iisUser (fun _ => true) (fun x => (inq x.1 1 5, ())) := S_iisUser s_iin fun x _ => ⟨0, ev_iisUser 0 x.1⟩
theorem s_ltoCerCer : C_ltoCerCer (fun x => decide (List.length x.1.2.1 ≤ 4294967296) && decide (List.length x.1.2.2.1 ≤ 4294967296)) (fun x => (x.1, ())) := S_ltoCerCer s_ltoSpcTestS s_ltoDecDecS fun x hx => ⟨0, (ev_ltoCerCer 0 x.1).trans (by
  obtain ⟨h1, h2⟩ := Bool.and_eq_true_iff.1 hx
  rw [h1, h2]; rfl)⟩
theorem s_leqCerCer : C_leqCerCer (fun x => decide (List.length x.1.2.1 ≤ 4294967296) && decide (List.length x.1.2.2.1 ≤ 4294967296)) (fun x => (same x.1 x.2.1, ())) := S_leqCerCer s_leqSpcTestS s_leqDecDecS fun x hx => ⟨0, (ev_leqCerCer 0 x.1 x.2.1).trans (by
  obtain ⟨h1, h2⟩ := Bool.and_eq_true_iff.1 hx
  rw [h1, h2]
  simp only [cond_true, bif_not, bif_neg, bif_some, bif_pair, bif_and, same_int, Bool.and_true]
  refine congrArg (fun b => some (b, ())) ?_
  rw [same_pair, same_pair, same_pair, same_pair])⟩

end Go.Proofs.Ytkjimaolpijoiaa
