/- The contracts: specifications that are added, raised. -/
import Derived.Test.YtkjimaolpijoiaaFnSpcRaiseSn9
set_option linter.unusedVariables false
set_option linter.unusedSimpArgs false
namespace Go.Proofs.Ytkjimaolpijoiaa
open Go.Vm

theorem s_sl3Copy : C_sl3Copy (fun x => smS x.1) (fun x => (x.1, ())) := S_sl3Copy fun x hx => ⟨List.length x.1 + 1, (ev_sl3Copy _ x.1).trans (by
  obtain ⟨h1, h2⟩ := smS_iff.1 hx
  have h1 : List.length x.1 ≤ 4294967296 := h1
  refine (app_loop (α := MSpc) x.1 (fun y => y) (fun k i out => r_sl3Copy (x.1, ()) k [false, true, false, true, true] (h0_sl3Copy x.1 (i : Int) out)) (fun k out => ?_) (fun k i y r out hd hi ho => ?_)).trans ?_
  · rw [rd0_sl3Copy, lt_false (Nat.le_refl _)]; rfl
  · rw [rd0_sl3Copy, in_true hi, lt_true hi, w_succ (by omega), rdL_drop hd, fitL_eq (by have := h2 y (mem_drop hd); show 0 + y.1.length ≤ _; omega), fitL_eq (by show out.length + 1 ≤ _; omega)]
    rfl
  · rw [List.map_id'])⟩
theorem s_gClone_SpcTest : C_gClone_SpcTest (fun x => smA x.1) (fun x => (x.1, ())) := S_gClone_SpcTest fun x hx => ⟨0, (ev_gClone_SpcTest 0 x.1).trans (by
  have hx : List.length x.1 ≤ 4294967296 := of_decide_eq_true hx
  have key : ∀ l : List MAsk, List.length l ≤ 4294967296 → (bif (List.isEmpty l) then (agree (some (([] : List MAsk), ())) (bif (fitL [] l) then (some ((List.append [] l), ())) else none)) else (bif (fitL [] l) then (some ((List.append [] l), ())) else none)) = some (l, ()) := by
    intro l hl
    rw [fitL_eq (by show 0 + l.length ≤ _; omega)]
    cases l with
    | nil => unfold agree; exact if_pos rfl
    | cons a r => rfl
  exact key x.1 hx)⟩
theorem s_ispecs : C_ispecs (fun x => smS x.1) (fun x => (x.1, ())) := S_ispecs s_gClone_SpcTest fun x hx => ⟨List.length x.1 + 1, (ev_ispecs _ x.1).trans (by
  obtain ⟨h1, h2⟩ := smS_iff.1 hx
  have h1 : List.length x.1 ≤ 4294967296 := h1
  refine (app_loop (α := MSpc) x.1 (fun y => y) (fun k i out => r_ispecs (fun x => (x.1, ())) (fun x => smA x.1) (x.1, ()) k [false, true, false, true, true] (h0_ispecs x.1 (List.length x.1 : Int) (i : Int) out)) (fun k out => ?_) (fun k i y r out hd hi ho => ?_)).trans ?_
  · rw [rd0_ispecs, lt_false (Nat.le_refl _)]; rfl
  · have h3 : smA y.1 = true := decide_eq_true (h2 y (mem_drop hd))
    rw [rd0_ispecs, in_true hi, lt_true hi, w_succ (by omega), rdL_drop hd, fitL_eq (by show out.length + 1 ≤ _; omega)]
    simp only [h3, cond_true]
    rfl
  · rw [List.map_id'])⟩

theorem s_sSpcAdd : C_sSpcAdd (fun x => smS x.1 && smA x.2.1) (fun x => ((spcAdd x.1 x.2.1).1, (spcAdd x.1 x.2.1).2, ())) := S_sSpcAdd s_sl3Copy s_sSpcOk s_sSpcTestsOk fun x hx => ⟨0, (ev_sSpcAdd 0 x.1 x.2.1).trans (by
  have hx : (smS x.1 && smA x.2.1) = true := hx
  obtain ⟨hx1, hx2⟩ := (Bool.and_eq_true _ _).mp hx
  have h1 : List.length x.1 ≤ 4294967296 := (smS_iff.1 hx1).1
  have key : ∀ (l : List MSpc) (t : List MAsk), l.length ≤ 4294967296 → smA t = true → (bif (bif spcsOk l then false else true) then (some (l, (false, ()))) else (bif (bif testsOk t then false else true) then (some (l, (false, ()))) else (bif (decide ((List.length l : Int) = (6 : Int))) then (some (l, (false, ()))) else (bif (fitL [] t) then (bif (fitL l [((List.append [] t), (1 : Int))]) then (some ((List.append l [((List.append [] t), (1 : Int))]), (true, ()))) else none) else none)))) = some ((spcAdd l t).1, (spcAdd l t).2, ()) := by
    intro l t hl ht
    have ht : t.length ≤ 4294967296 := of_decide_eq_true ht
    unfold spcAdd
    cases hs : spcsOk l
    · rfl
    · have h6 : l.length ≤ 6 := by unfold spcsOk at hs; simp at hs; exact hs.1
      rw [fitL_eq (by show 0 + t.length ≤ _; omega), fitL_eq (by show l.length + 1 ≤ _; omega)]
      cases testsOk t
      · rfl
      · by_cases h : l.length = 6
        · rw [decide_eq_true (show (List.length l : Int) = 6 by omega), decide_eq_true h]; rfl
        · rw [decide_eq_false (show ¬ (List.length l : Int) = 6 by omega), decide_eq_false h]; rfl
  simp only [hx1, cond_true]
  exact key x.1 x.2.1 h1 hx2)⟩
theorem rd_spc (l : List MSpc) (k : Int) : rdL (e := S_SpcSpec) l k = l.getD k.toNat ([], 0) := rfl
theorem p_sSpcRaise (l : List MSpc) (n : Int) (hl : l.length ≤ 4294967296) (h1 : 0 ≤ n) (h2 : n < l.length) : r_sSpcRaise (fun x => (x.1, ())) (fun x => smS x.1) (fun x => (spcsOk x.1, ())) (fun x => (inq x.1 x.2.1 x.2.2.1, ())) (l, n, ()) (l.length + 1) [false, true, false, true, true, true] (h0_sSpcRaise l n ((0 : Nat) : Int) l) = some ((l.map retire).set n.toNat ((l.getD n.toNat ([], 0)).1, 2), true, ()) := by
  have hin : ∀ out : List MSpc, out.length = l.length → (bif decide ((0 : Int) ≤ n) then decide (n < (List.length out : Int)) else false) = true := fun out ho => by
    rw [decide_eq_true h1]; exact decide_eq_true (by omega)
  refine (set_loop (α := MSpc) l retire (fun out => some (out.set n.toNat ((out.getD n.toNat ([], 0)).1, 2), true, ())) (fun k i out => r_sSpcRaise (fun x => (x.1, ())) (fun x => smS x.1) (fun x => (spcsOk x.1, ())) (fun x => (inq x.1 x.2.1 x.2.2.1, ())) (l, n, ()) k [false, true, false, true, true, true] (h0_sSpcRaise l n (i : Int) out)) (fun k out ho => ?_) (fun k i y r out hd hi ho => ?_)).trans ?_
  · rw [rd0_sSpcRaise, lt_false (by omega), hin out ho]; rfl
  · have hi' : i < out.length := by omega
    rw [rd0_sSpcRaise, in_true hi', lt_true hi', w_succ (by omega), rdL_drop hd, Int.toNat_natCast]
    unfold retire
    cases h : decide (y.2 = 2)
    · have : out.set i y = out := set_self (by
        have := congrArg List.head? hd
        rwa [List.head?_drop] at this)
      simp only [cond_true, cond_false, this]
    · simp only [cond_true]
  · simp only [getD_retire]
theorem s_sSpcRaise : C_sSpcRaise (fun x => smS x.1) (fun x => ((spcRaise x.1 x.2.1).1, (spcRaise x.1 x.2.1).2, ())) := S_sSpcRaise s_sl3Copy s_sSpcOk s_sl1In fun x hx => ⟨List.length x.1 + 1, (ev_sSpcRaise _ x.1 x.2.1).trans (by
  have hx : smS x.1 = true := hx
  have h1 : List.length x.1 ≤ 4294967296 := (smS_iff.1 hx).1
  have key : ∀ (l : List MSpc) (n : Int) (Z : Option (List MSpc × Bool × Unit)), l.length ≤ 4294967296 → (0 ≤ n → n < l.length → Z = some ((l.map retire).set n.toNat ((l.getD n.toNat ([], 0)).1, 2), true, ())) → (bif (bif spcsOk l then false else true) then (some (l, (false, ()))) else (bif (bif inq n 0 (w64 ((List.length l : Int) - (1 : Int))) then false else true) then (some (l, (false, ()))) else (bif (bif (decide ((0 : Int) ≤ n)) then (decide (n < (List.length l : Int))) else false) then (bif (bif (decide ((rdL (e := S_SpcSpec) l n).2 = (1 : Int))) then false else true) then (some (l, (false, ()))) else Z) else none))) = some ((spcRaise l n).1, (spcRaise l n).2, ()) := by
    intro l n Z hl hZ
    unfold spcRaise
    cases hs : spcsOk l
    · rfl
    · rw [w64_eq (by omega) (by omega), rd_spc]
      cases hi : inq n 0 ((l.length : Int) - 1)
      · rfl
      · obtain ⟨h1, h2⟩ := inq_iff.1 hi
        rw [decide_eq_true h1, decide_eq_true (show n < (l.length : Int) by omega), hZ h1 (by omega)]
        cases decide ((l.getD n.toNat ([], 0)).2 = 1) <;> rfl
  simp only [hx, cond_true]
  exact key x.1 x.2.1 _ h1 fun h2 h3 => p_sSpcRaise x.1 x.2.1 h1 h2 h3)⟩

theorem s_iSpcNow_c1 : C_iSpcNow_c1 (fun _ => true) (fun x => (decide (x.1.2 = 2), ())) := S_iSpcNow_c1 fun x _ => ⟨0, ev_iSpcNow_c1 0 x.1⟩
theorem s_gIndexFunc_SpcSpec__iSpcNow_c1 : C_gIndexFunc_SpcSpec__iSpcNow_c1 (fun x => decide (List.length x.1 ≤ 4294967296)) (fun x => (spcNow x.1, ())) := S_gIndexFunc_SpcSpec__iSpcNow_c1 s_iSpcNow_c1 fun x hx => ⟨List.length x.1 + 1, (ev_gIndexFunc_SpcSpec__iSpcNow_c1 _ x.1 x.2.1).trans (by
  have hx : List.length x.1 ≤ 4294967296 := of_decide_eq_true hx
  refine idx_loop (α := MSpc) x.1 (fun t => decide (t.2 = 2)) (fun k i => r_gIndexFunc_SpcSpec__iSpcNow_c1 (fun x => (decide (x.1.2 = 2), ())) (x.1, x.2.1, ()) k [false, true, false, true] (h0_gIndexFunc_SpcSpec__iSpcNow_c1 x.1 x.2.1 (List.length x.1 : Int) (i : Int))) (fun k => ?_) (fun k i y r hd hi => ?_)
  · rw [rd0_gIndexFunc_SpcSpec__iSpcNow_c1, lt_false (Nat.le_refl _)]; rfl
  · rw [rd0_gIndexFunc_SpcSpec__iSpcNow_c1, in_true hi, lt_true hi, w_succ (by omega), rdL_drop hd]; rfl)⟩
theorem s_iSpcNow : C_iSpcNow (fun x => decide (List.length x.1 ≤ 4294967296)) (fun x => (spcNow x.1, ())) := S_iSpcNow s_gIndexFunc_SpcSpec__iSpcNow_c1 fun x hx => ⟨0, (ev_iSpcNow 0 x.1).trans (by
  have hx : decide (List.length x.1 ≤ 4294967296) = true := hx
  simp only [hx, cond_true])⟩
theorem s_iSpcRaise : C_iSpcRaise (fun x => smS x.1) (fun x => ((spcRaise x.1 x.2.1).1, (spcRaise x.1 x.2.1).2, ())) := S_iSpcRaise s_ispecs s_iSpcOk s_iin s_iSpcNow fun x hx => ⟨0, (ev_iSpcRaise 0 x.1 x.2.1).trans (by
  have hx : smS x.1 = true := hx
  have h1 : List.length x.1 ≤ 4294967296 := (smS_iff.1 hx).1
  have h2 : decide (List.length x.1 ≤ 4294967296) = true := decide_eq_true h1
  have key : ∀ (l : List MSpc) (n : Int), l.length ≤ 4294967296 → (bif (bif spcsOk l then false else true) then (some (l, (false, ()))) else (bif (bif inq n 0 (w64 ((List.length l : Int) - (1 : Int))) then false else true) then (some (l, (false, ()))) else (bif (bif (decide ((0 : Int) ≤ n)) then (decide (n < (List.length l : Int))) else false) then (bif (bif (decide ((rdL (e := S_SpcSpec) l n).2 = (1 : Int))) then false else true) then (some (l, (false, ()))) else (bif (decide ((0 : Int) ≤ spcNow l)) then (bif (bif (decide ((0 : Int) ≤ spcNow l)) then (decide (spcNow l < (List.length l : Int))) else false) then (bif (bif (decide ((0 : Int) ≤ n)) then (decide (n < (List.length (List.set l (Int.toNat (spcNow l)) ((rdL (e := S_SpcSpec) l (spcNow l)).1, (3 : Int))) : Int))) else false) then (some ((List.set (List.set l (Int.toNat (spcNow l)) ((rdL (e := S_SpcSpec) l (spcNow l)).1, (3 : Int))) (Int.toNat n) ((rdL (e := S_SpcSpec) (List.set l (Int.toNat (spcNow l)) ((rdL (e := S_SpcSpec) l (spcNow l)).1, (3 : Int))) n).1, (2 : Int))), (true, ()))) else none) else none) else (bif (bif (decide ((0 : Int) ≤ n)) then (decide (n < (List.length l : Int))) else false) then (some ((List.set l (Int.toNat n) ((rdL (e := S_SpcSpec) l n).1, (2 : Int))), (true, ()))) else none))) else none))) = some ((spcRaise l n).1, (spcRaise l n).2, ()) := by
    intro l n hl
    unfold spcRaise
    cases hs : spcsOk l
    · rfl
    · rw [w64_eq (by omega) (by omega), rd_spc]
      cases hi : inq n 0 ((l.length : Int) - 1)
      · rfl
      · obtain ⟨h1, h2⟩ := inq_iff.1 hi
        have hf : force l ≤ 1 := by unfold spcsOk at hs; simp at hs; exact hs.2.2
        have hr := retire_first l hf
        have e0 : ((l.map retire).getD n.toNat ([], 0)).1 = (l.getD n.toNat ([], 0)).1 := getD_retire l n.toNat
        rw [decide_eq_true h1, decide_eq_true (show n < (l.length : Int) by omega)]
        cases decide ((l.getD n.toNat ([], 0)).2 = 1)
        · rfl
        · rcases idxOf_range (fun s : MSpc => decide (s.2 = 2)) l with hn | ⟨hn1, hn2⟩
          · have hn : spcNow l = -1 := hn
            rw [hn] at hr ⊢
            rw [show l.map retire = l from hr]
            rfl
          · have hn1 : 0 ≤ spcNow l := hn1
            have hn2 : spcNow l < l.length := hn2
            rw [if_neg (by omega)] at hr
            simp only [rd_spc, List.length_set]
            rw [← hr, e0, decide_eq_true hn1, decide_eq_true hn2, decide_eq_true (show n < (l.length : Int) by omega)]
            rfl
  simp only [hx, h2, cond_true]
  exact key x.1 x.2.1 h1)⟩

theorem s_lcuSpecs : C_lcuSpecs (fun x => smS x.1) (fun x => (same x.1 x.2.1, ())) := S_lcuSpecs s_lcuTests fun x hx => ⟨List.length x.1 + 1, (ev_lcuSpecs _ x.1 x.2.1).trans (by
  obtain ⟨h1, h2⟩ := smS_iff.1 hx
  have h1 : List.length x.1 ≤ 4294967296 := h1
  by_cases hl : List.length x.1 = List.length x.2.1
  · rw [hl, decide_eq_true rfl, ← hl]
    refine eq_loop (α := MSpc) x.1 x.2.1 hl (fun k i => r_lcuSpecs (fun x => (same x.1 x.2.1, ())) (fun x => decide (List.length x.1 ≤ 4294967296)) (x.1, x.2.1, ()) k [false, true, false, true, true] (h0_lcuSpecs x.1 x.2.1 (i : Int))) (fun k => ?_) (fun k i a b r r' hd hd' hi hi' => ?_)
    · rw [rd0_lcuSpecs, lt_false (Nat.le_refl _)]; rfl
    · have h3 : decide (List.length a.1 ≤ 4294967296) = true := decide_eq_true (h2 a (mem_drop hd))
      rw [rd0_lcuSpecs, in_true hi, in_true hi', lt_true hi, w_succ (by omega), rdL_drop hd, rdL_drop hd']
      simp only [h3, cond_true]
      rw [← same_pair a.1 b.1 a.2 b.2, ← same_int]
      cases same a.1 b.1 <;> cases h : decide (a.2 = b.2) <;> rfl
  · rw [decide_eq_false (by omega), same_false (fun e => hl (congrArg List.length e))]; rfl)⟩

end Go.Proofs.Ytkjimaolpijoiaa
