/- The functions that FnExactStoNew reaches: what each of them answers, part 1. Conditions stand in each contract. -/
import Derived.Test.YtijolcgmciclhaaFnExactStoNewEq0
import Derived.Test.YtijolcgmciclhaaFnExactStoNewMoA
set_option linter.unusedVariables false
set_option linter.unusedSimpArgs false
namespace Go.Proofs.Ytijolcgmciclhaa
open Go.Vm

theorem s_iin : C_iin (fun _ => true) (fun x => (inq x.1 x.2.1 x.2.2.1, ())) := S_iin fun x _ => ⟨0, (ev_iin 0 x.1 x.2.1 x.2.2.1).trans (by
  simp only [Qcx, Qcy, Qdp]; rfl)⟩
theorem s_a1 : C_a1 (fun _ => true) (fun x => (inq x.1 x.2.1 x.2.2.1, ())) := S_a1 fun x _ => ⟨0, (ev_a1 0 x.1 x.2.1 x.2.2.1).trans (by
  simp only [Qcx, Qcy, Qdp]; rfl)⟩

end Go.Proofs.Ytijolcgmciclhaa

set_option linter.unusedVariables false
set_option linter.unusedSimpArgs false
namespace Go.Proofs.Ytijolcgmciclhaa
open Go.Vm

theorem p_make {n : Nat} {α : Type} {X : Option α} (h : n <= 4294967296) : (bif (bif (bif (decide ((0 : Int) <= (n : Int))) then (decide ((n : Int) <= (BIG : Int))) else false) then (decide ((n : Int) = (n : Int))) else false) then X else none) = X := by
  rw [decide_eq_true (show (0 : Int) <= (n : Int) by omega), decide_eq_true (show (n : Int) <= (BIG : Int) by show (n : Int) <= ((4294967296 : Nat) : Int); omega), decide_eq_true rfl]; rfl

theorem s_ac : C_ac (fun _ => true) (fun x => (same x.1 x.2.1, ())) := S_ac fun x _ => ⟨0, (ev_ac 0 x.1 x.2.1).trans (by
  simp only [Qb6, Qcz, Qcx, Qcy, Qdp, Qan, Bool.and_true]
  exact congrArg (fun b => some (b, ())) (Qah _ _ _ _))⟩
theorem s_ad : C_ad (fun _ => true) (fun x => (same x.1 x.2.1, ())) := S_ad s_ac fun x _ => ⟨0, (ev_ad 0 x.1 x.2.1).trans (by
  simp only [Qb6, Qcz, Qcx, Qcy, Qdp, Qan, Bool.and_true]
  refine congrArg (fun b => some (b, ())) ?_
  rw [Qah, Qah, Qah])⟩

/-- Two rows of one length, and the loop over them. -/
theorem p_eqS {α : Type} {xs ys : List α} {X : Option (Bool × Unit)} (h : xs.length = ys.length -> X = some (same xs ys, ())) : (bif (bif (decide ((xs.length : Int) = (ys.length : Int))) then false else true) then (some (false, ())) else X) = some (same xs ys, ()) := by
  by_cases hl : xs.length = ys.length
  · rw [decide_eq_true (by omega)]; exact h hl
  · rw [decide_eq_false (by omega), Qgr fun e => hl (by rw [e])]; rfl

theorem s_ae : C_ae (fun x => decide (List.length x.1 <= 4294967296)) (fun x => (same x.1 x.2.1, ())) := S_ae s_ad fun x hx => ⟨List.length x.1 + 1, (ev_ae _ x.1 x.2.1).trans (p_eqS fun hl => by
  have hx : List.length x.1 <= 4294967296 := of_decide_eq_true hx
  refine Qb7 (α := MAsk) x.1 x.2.1 hl (fun k i => r_ae (fun x => (same x.1 x.2.1, ())) (x.1, x.2.1, ()) k pt1 (h0_ae x.1 x.2.1 (i : Int))) (fun k => ?_) (fun k i y z r r' hd hd' hi hi' => ?_)
  · rw [rd0_ae, Qaj (Nat.le_refl _)]; rfl
  · rw [rd0_ae, Qas hi, Qas hi', Qak hi, Qap (by omega), Qaf hd, Qaf hd', Qb6, Qcz]; rfl)⟩

end Go.Proofs.Ytijolcgmciclhaa

set_option linter.unusedVariables false
set_option linter.unusedSimpArgs false
namespace Go.Proofs.Ytijolcgmciclhaa
open Go.Vm

theorem s_af : C_af (fun x => smA x.1.1) (fun x => (same x.1 x.2.1, ())) := S_af s_ae fun x hx => ⟨0, (ev_af 0 x.1 x.2.1).trans (by
  have hx : decide (List.length x.1.1 <= 4294967296) = true := hx
  rw [hx]
  simp only [cond_true, Qb6, Qcz, Qcx, Qcy, Qdp, Qan, Bool.and_true]
  exact congrArg (fun b => some (b, ())) (Qah _ _ _ _))⟩
theorem s_ag : C_ag (fun x => smS x.1) (fun x => (same x.1 x.2.1, ())) := S_ag s_af fun x hx => ⟨List.length x.1 + 1, (ev_ag _ x.1 x.2.1).trans (p_eqS fun hl => by
  obtain ⟨h1, h2⟩ := Qjj.1 hx
  have h1 : List.length x.1 <= 4294967296 := h1
  refine Qb7 (α := MSpc) x.1 x.2.1 hl (fun k i => r_ag (fun x => (same x.1 x.2.1, ())) (fun x => smA x.1.1) (x.1, x.2.1, ()) k pt1 (h0_ag x.1 x.2.1 (i : Int))) (fun k => ?_) (fun k i y z r r' hd hd' hi hi' => ?_)
  · rw [rd0_ag, Qaj (Nat.le_refl _)]; rfl
  · have h3 : smA y.1 = true := decide_eq_true (h2 y (Qet hd))
    rw [rd0_ag, Qas hi, Qas hi', Qak hi, Qap (by omega), Qaf hd, Qaf hd']
    simp only [h3, cond_true, Qb6, Qcz])⟩

end Go.Proofs.Ytijolcgmciclhaa

set_option linter.unusedVariables false
set_option linter.unusedSimpArgs false
namespace Go.Proofs.Ytijolcgmciclhaa
open Go.Vm

theorem s_ah : C_ah (fun x => decide (List.length x.1 <= 4294967296)) (fun x => (same x.1 x.2.1, ())) := S_ah s_ac fun x hx => ⟨List.length x.1 + 1, (ev_ah _ x.1 x.2.1).trans (p_eqS fun hl => by
  have hx : List.length x.1 <= 4294967296 := of_decide_eq_true hx
  refine Qb7 (α := MDec) x.1 x.2.1 hl (fun k i => r_ah (fun x => (same x.1 x.2.1, ())) (x.1, x.2.1, ()) k pt1 (h0_ah x.1 x.2.1 (i : Int))) (fun k => ?_) (fun k i y z r r' hd hd' hi hi' => ?_)
  · rw [rd0_ah, Qaj (Nat.le_refl _)]; rfl
  · rw [rd0_ah, Qas hi, Qas hi', Qak hi, Qap (by omega), Qaf hd, Qaf hd', Qb6, Qcz]; rfl)⟩
theorem s_ai : C_ai (fun x => decide (List.length x.1.2.2.2.2 <= 4294967296)) (fun x => (same x.1 x.2.1, ())) := S_ai s_ad s_ac s_ah fun x hx => ⟨0, (ev_ai 0 x.1 x.2.1).trans (by
  have hx : decide (List.length x.1.2.2.2.2 <= 4294967296) = true := hx
  simp only [hx, cond_true, Qb6, Qcz, Qcx, Qcy, Qdp, Qan, Bool.and_true]
  refine congrArg (fun b => some (b, ())) ?_
  rw [Qah, Qah, Qah, Qah])⟩

end Go.Proofs.Ytijolcgmciclhaa

set_option linter.unusedVariables false
set_option linter.unusedSimpArgs false
namespace Go.Proofs.Ytijolcgmciclhaa
open Go.Vm
theorem Qhd {S : Sh} {l : List S.den} {i : Nat} {x : S.den} (h : i < l.length) : rdL (e := S) (l.set i x) (i : Int) = x := by
  unfold rdL
  rw [Int.toNat_natCast, List.getD_eq_getElem?_getD, List.getElem?_set_self h]; rfl
theorem s_ax : C_ax (fun x => mkPre (szL (fun _ => 6)) x.1 x.2.1) (fun x => ((markL mkAsk x.1 x.2.1).2, ((markL mkAsk x.1 x.2.1).1, ()))) := S_ax fun x hx => ⟨List.length x.1 + 1, (ev_ax _ x.1 x.2.1).trans (by
  obtain ⟨h1, h2⟩ := Qab.1 hx
  have hl : List.length x.1 <= szL (fun _ => 6) x.1 := Qax (fun _ => by decide) x.1
  refine Qbq (α := MAsk) (mk := mkAsk) (sz := fun _ => 6) Qa3.go x.1 4294967296 (fun c out => some (c, (out, ()))) (fun k i c out => r_ax (x.1, x.2.1, ()) k pt0 (h0_ax x.1 x.2.1 c (i : Int) out)) (fun k c out ho => ?_) (fun k i y r c out hd hi ho h0 hB => ?_) x.2.1 h1 h2
  · rw [rd0_ax]
    try simp only [lt_eq]
    rw [Qaj (show out.length <= List.length x.1 by omega)]; rfl
  · have hi' : i < out.length := by omega
    have hB : c + 6 <= 4294967296 := hB
    rw [rd0_ax]
    have hr : ∀ y : MAsk, rdL (e := S_SpcTest) (out.set i y) (i : Int) = y := fun y => Qhd hi'
    have h0i : decide ((0 : Int) <= (i : Int)) = true := decide_eq_true (by omega)
    simp only [lt_eq, Int.toNat_natCast, List.length_set, hr, List.set_set, h0i, Qak hi', cond_true, Qap (show i <= 4294967296 by omega)]
    rw [Qac (x := c + 1) (by omega) (by omega), Qac (x := c + 1 + 1) (by omega) (by omega), Qac (x := c + 1 + 1 + 1) (by omega) (by omega), Qac (x := c + 1 + 1 + 1 + 1) (by omega) (by omega), Qac (x := c + 1 + 1 + 1 + 1 + 1) (by omega) (by omega), Qac (x := c + 1 + 1 + 1 + 1 + 1 + 1) (by omega) (by omega)]
    rfl)⟩
theorem s_b9 : C_b9 (fun x => mkPre (szL (fun _ => 6)) x.1 x.2.1) (fun x => (hdOf (markL mkAsk) x.1 x.2.1, ())) := S_b9 fun x hx => ⟨List.length x.1 + 1, (ev_b9 _ x.1 x.2.1).trans (by
  obtain ⟨h1, h2⟩ := Qab.1 hx
  have hl : List.length x.1 <= szL (fun _ => 6) x.1 := Qax (fun _ => by decide) x.1
  refine Qbr (α := MAsk) (mk := mkAsk) (sz := fun _ => 6) Qa3 x.1 4294967296 (fun k i c => r_b9 (x.1, x.2.1, ()) k pt0 (h0_b9 x.1 x.2.1 c (i : Int))) (fun k c => ?_) (fun k i y r c hd hi h0 hB => ?_) x.2.1 h1 h2
  · rw [rd0_b9]
    try simp only [lt_eq]
    rw [Qaj (Nat.le_refl _)]; rfl
  · have hB : c + 6 <= 4294967296 := hB
    rw [rd0_b9]
    have h0i : decide ((0 : Int) <= (i : Int)) = true := decide_eq_true (by omega)
    simp only [lt_eq, h0i, Qak hi, cond_true, Qap (show i <= 4294967296 by omega), Qaf hd]
    rw [Qac (x := c + 1) (by omega) (by omega), Qac (x := c + 1 + 1) (by omega) (by omega), Qac (x := c + 1 + 1 + 1) (by omega) (by omega), Qac (x := c + 1 + 1 + 1 + 1) (by omega) (by omega), Qac (x := c + 1 + 1 + 1 + 1 + 1) (by omega) (by omega), Qac (x := c + 1 + 1 + 1 + 1 + 1 + 1) (by omega) (by omega)]
    unfold mkAsk
    simp only [Qbt, Qan]
    cases same y.1 c <;> cases same y.2.1.1 (c + 1) <;> cases same y.2.1.2 (c + 1 + 1) <;> cases same y.2.2.1.1 (c + 1 + 1 + 1) <;> cases same y.2.2.1.2 (c + 1 + 1 + 1 + 1) <;> cases same y.2.2.2 (c + 1 + 1 + 1 + 1 + 1) <;> rfl)⟩
theorem s_az : C_az (fun x => mkPre (szL (fun _ => 2)) x.1 x.2.1) (fun x => ((markL mkDec x.1 x.2.1).2, ((markL mkDec x.1 x.2.1).1, ()))) := S_az fun x hx => ⟨List.length x.1 + 1, (ev_az _ x.1 x.2.1).trans (by
  obtain ⟨h1, h2⟩ := Qab.1 hx
  have hl : List.length x.1 <= szL (fun _ => 2) x.1 := Qax (fun _ => by decide) x.1
  refine Qbq (α := MDec) (mk := mkDec) (sz := fun _ => 2) Qc0.go x.1 4294967296 (fun c out => some (c, (out, ()))) (fun k i c out => r_az (x.1, x.2.1, ()) k pt0 (h0_az x.1 x.2.1 c (i : Int) out)) (fun k c out ho => ?_) (fun k i y r c out hd hi ho h0 hB => ?_) x.2.1 h1 h2
  · rw [rd0_az]
    try simp only [lt_eq]
    rw [Qaj (show out.length <= List.length x.1 by omega)]; rfl
  · have hi' : i < out.length := by omega
    have hB : c + 2 <= 4294967296 := hB
    rw [rd0_az]
    have hr : ∀ y : MDec, rdL (e := S_DecDec) (out.set i y) (i : Int) = y := fun y => Qhd hi'
    have h0i : decide ((0 : Int) <= (i : Int)) = true := decide_eq_true (by omega)
    simp only [lt_eq, Int.toNat_natCast, List.length_set, hr, List.set_set, h0i, Qak hi', cond_true, Qap (show i <= 4294967296 by omega)]
    rw [Qac (x := c + 1) (by omega) (by omega), Qac (x := c + 1 + 1) (by omega) (by omega)]
    rfl)⟩
theorem s_bb : C_bb (fun x => mkPre (szL (fun _ => 2)) x.1 x.2.1) (fun x => (hdOf (markL mkDec) x.1 x.2.1, ())) := S_bb fun x hx => ⟨List.length x.1 + 1, (ev_bb _ x.1 x.2.1).trans (by
  obtain ⟨h1, h2⟩ := Qab.1 hx
  have hl : List.length x.1 <= szL (fun _ => 2) x.1 := Qax (fun _ => by decide) x.1
  refine Qbr (α := MDec) (mk := mkDec) (sz := fun _ => 2) Qc0 x.1 4294967296 (fun k i c => r_bb (x.1, x.2.1, ()) k pt0 (h0_bb x.1 x.2.1 c (i : Int))) (fun k c => ?_) (fun k i y r c hd hi h0 hB => ?_) x.2.1 h1 h2
  · rw [rd0_bb]
    try simp only [lt_eq]
    rw [Qaj (Nat.le_refl _)]; rfl
  · have hB : c + 2 <= 4294967296 := hB
    rw [rd0_bb]
    have h0i : decide ((0 : Int) <= (i : Int)) = true := decide_eq_true (by omega)
    simp only [lt_eq, h0i, Qak hi, cond_true, Qap (show i <= 4294967296 by omega), Qaf hd]
    rw [Qac (x := c + 1) (by omega) (by omega), Qac (x := c + 1 + 1) (by omega) (by omega)]
    unfold mkDec
    simp only [Qbt, Qan]
    cases same y.1 c <;> cases same y.2 (c + 1) <;> rfl)⟩
theorem s_ay : C_ay (fun x => mkPre (szL szS) x.1 x.2.1) (fun x => ((markL mkSpc x.1 x.2.1).2, ((markL mkSpc x.1 x.2.1).1, ()))) := S_ay s_ax fun x hx => ⟨List.length x.1 + 1, (ev_ay _ x.1 x.2.1).trans (by
  obtain ⟨h1, h2⟩ := Qab.1 hx
  have hl : List.length x.1 <= szL szS x.1 := Qax Qjk x.1
  refine Qbq (α := MSpc) (mk := mkSpc) (sz := szS) Qcd.go x.1 4294967296 (fun c out => some (c, (out, ()))) (fun k i c out => r_ay (fun x => ((markL mkAsk x.1 x.2.1).2, ((markL mkAsk x.1 x.2.1).1, ()))) (fun x => mkPre (szL (fun _ => 6)) x.1 x.2.1) (x.1, x.2.1, ()) k pt0 (h0_ay x.1 x.2.1 c (i : Int) out)) (fun k c out ho => ?_) (fun k i y r c out hd hi ho h0 hB => ?_) x.2.1 h1 h2
  · rw [rd0_ay, Qaj (show out.length <= List.length x.1 by omega)]; rfl
  · have hi' : i < out.length := by omega
    have hB : c + ((szL (fun _ => 6) y.1 + 1 : Nat) : Int) <= 4294967296 := hB
    have hg := Qa3.list.go y.1 c
    rw [rd0_ay]
    have hr : ∀ y : MSpc, rdL (e := S_SpcSpec) (out.set i y) (i : Int) = y := fun y => Qhd hi'
    have h0i : decide ((0 : Int) <= (i : Int)) = true := decide_eq_true (by omega)
    have hp : mkPre (szL (fun _ => 6)) y.1 c = true := Qab.2 ⟨h0, by omega⟩
    simp only [Qaf (S := S_SpcSpec) hd, hp, cl, Int.toNat_natCast, List.length_set, hr, List.set_set, h0i, Qak hi', cond_true, Qap (show i <= 4294967296 by omega)]
    rw [Qac (x := (markL mkAsk y.1 c).2 + 1) (by omega) (by omega)]
    rfl)⟩
theorem s_ba : C_ba (fun x => mkPre (szL szS) x.1 x.2.1) (fun x => (hdOf (markL mkSpc) x.1 x.2.1, ())) := S_ba s_b9 fun x hx => ⟨List.length x.1 + 1, (ev_ba _ x.1 x.2.1).trans (by
  obtain ⟨h1, h2⟩ := Qab.1 hx
  have hl : List.length x.1 <= szL szS x.1 := Qax Qjk x.1
  refine Qbr (α := MSpc) (mk := mkSpc) (sz := szS) Qcd x.1 4294967296 (fun k i c => r_ba (fun x => (hdOf (markL mkAsk) x.1 x.2.1, ())) (fun x => mkPre (szL (fun _ => 6)) x.1 x.2.1) (x.1, x.2.1, ()) k pt0 (h0_ba x.1 x.2.1 c (i : Int))) (fun k c => ?_) (fun k i y r c hd hi h0 hB => ?_) x.2.1 h1 h2
  · rw [rd0_ba, Qaj (Nat.le_refl _)]; rfl
  · have hB : c + ((szL (fun _ => 6) y.1 + 1 : Nat) : Int) <= 4294967296 := hB
    have hg := Qa3.list.go y.1 c
    have hp : mkPre (szL (fun _ => 6)) y.1 c = true := Qab.2 ⟨h0, by omega⟩
    rw [rd0_ba]
    have h0i : decide ((0 : Int) <= (i : Int)) = true := decide_eq_true (by omega)
    simp only [h0i, Qak hi, cond_true, Qap (show i <= 4294967296 by omega), Qaf (S := S_SpcSpec) hd, hp, cl]
    unfold mkSpc
    simp only [Qbt, Qan]
    rcases Qa3.list.hd (x := y.1) h0 with ⟨g1, g2, g3⟩ | ⟨g1, g2, g3⟩
    · rw [g2, g3]; rfl
    · have e : hdOf (markL mkAsk) y.1 c = (markL mkAsk y.1 c).2 := by rw [g2, hg]
      rw [g3, decide_eq_false (show ¬ hdOf (markL mkAsk) y.1 c < 0 by omega), e, Qac (x := (markL mkAsk y.1 c).2 + 1) (by omega) (by omega)]
      cases same y.2 (markL mkAsk y.1 c).2 <;> rfl)⟩

end Go.Proofs.Ytijolcgmciclhaa

set_option linter.unusedVariables false
set_option linter.unusedSimpArgs false
namespace Go.Proofs.Ytijolcgmciclhaa
open Go.Vm
theorem p_clone {α : Type} (l : List α) (hl : l.length <= 4294967296) : (bif (List.isEmpty l) then (agree (some (([] : List α), ())) (bif (fitL [] l) then (some ((List.append [] l), ())) else none)) else (bif (fitL [] l) then (some ((List.append [] l), ())) else none)) = some (l, ()) := by
  rw [Qji (by show 0 + l.length <= _; omega)]
  cases l with
  | nil => unfold agree; exact if_pos rfl
  | cons a r => rfl
end Go.Proofs.Ytijolcgmciclhaa

set_option linter.unusedVariables false
set_option linter.unusedSimpArgs false
namespace Go.Proofs.Ytijolcgmciclhaa
open Go.Vm
theorem Ql2 (a b : MReq) : same a b = (same a.1 b.1 && (same a.2.1 b.2.1 && (same a.2.2.1 b.2.2.1 && (same a.2.2.2.1 b.2.2.2.1 && (same a.2.2.2.2.1 b.2.2.2.2.1 && (same a.2.2.2.2.2.1 b.2.2.2.2.2.1 && same a.2.2.2.2.2.2 b.2.2.2.2.2.2)))))) := by
  rw [show same a b = same (a.1, a.2.1, a.2.2.1, a.2.2.2.1, a.2.2.2.2.1, a.2.2.2.2.2.1, a.2.2.2.2.2.2) (b.1, b.2.1, b.2.2.1, b.2.2.2.1, b.2.2.2.2.1, b.2.2.2.2.2.1, b.2.2.2.2.2.2) from rfl, <- Qah, <- Qah, <- Qah, <- Qah, <- Qah, <- Qah]
theorem s_aq : C_aq (fun x => decide (List.length x.1.2.2.2.2.2.2 <= 4294967296)) (fun x => (same x.1 x.2.1, ())) := S_aq s_ac s_ae fun x hx => ⟨0, (ev_aq 0 x.1 x.2.1).trans (by
  obtain ⟨a, b, u⟩ := x
  change MReq at a
  change MReq at b
  have hx : decide (List.length a.2.2.2.2.2.2 <= 4294967296) = true := hx
  rw [Ql2 a b]
  simp only [cl, hx, cond_true, Qan]
  cases same a.1 b.1 <;> cases same a.2.1 b.2.1 <;> cases same a.2.2.1 b.2.2.1 <;> cases same a.2.2.2.1 b.2.2.2.1 <;> cases same a.2.2.2.2.1 b.2.2.2.2.1 <;> cases same a.2.2.2.2.2.1 b.2.2.2.2.2.1 <;> cases same a.2.2.2.2.2.2 b.2.2.2.2.2.2 <;> rfl)⟩
end Go.Proofs.Ytijolcgmciclhaa

set_option linter.unusedVariables false
set_option linter.unusedSimpArgs false
namespace Go.Proofs.Ytijolcgmciclhaa
open Go.Vm
theorem s_a4 : C_a4 (fun _ => true) (fun x => (!inq x.1 1 4, ())) := S_a4 s_iin fun x _ => ⟨0, (ev_a4 0 x.1).trans (by simp only [Qb6])⟩

theorem s_a5 : C_a5 (fun x => decide (List.length x.1 <= 4294967296)) (fun x => (idxOf (fun d : Int => !inq d 1 4) x.1 0, ())) := S_a5 s_a4 fun x hx => ⟨List.length x.1 + 1, (ev_a5 _ x.1 x.2.1).trans (by
  have hx : List.length x.1 <= 4294967296 := of_decide_eq_true hx
  refine Qlz (α := Int) x.1 (fun d => !inq d 1 4) (fun k i => r_a5 (fun x => (!inq x.1 1 4, ())) (x.1, x.2.1, ()) k pt0 (h0_a5 x.1 x.2.1 (List.length x.1 : Int) (i : Int))) (fun k => ?_) (fun k i y r hd hi => ?_)
  · rw [rd0_a5, Qaj (Nat.le_refl _)]; rfl
  · rw [rd0_a5, Qas hi, Qak hi, Qap (by omega), Qaf hd]; rfl)⟩
theorem s_a6 : C_a6 (fun x => decide (List.length x.1 <= 4294967296)) (fun x => (List.any x.1 (fun d : Int => !inq d 1 4), ())) := S_a6 s_a5 fun x hx => ⟨0, (ev_a6 0 x.1 x.2.1).trans (by
  have hx : (decide (List.length x.1 <= 4294967296)) = true := hx
  simp only [cl, hx, cond_true, Qhu])⟩
theorem s_a7 : C_a7 (fun x => decide (List.length x.1 <= 4294967296)) (fun x => (rolesOk x.1, ())) := S_a7 s_iin s_a6 fun x hx => ⟨0, (ev_a7 0 x.1).trans (by
  obtain ⟨l, u⟩ := x
  change List Int at l
  have hx : decide (List.length l <= 4294967296) = true := hx
  have e1 : (!(List.any l fun d : Int => !inq d 1 4)) = List.all l (fun d => inq d 1 4) := Qi7 _ _
  show _ = some (rolesOk l, ())
  unfold rolesOk
  simp only [cl, hx, cond_true, Qb6]
  rw [e1]
  cases inq (List.length l : Int) 1 5 <;> rfl)⟩
theorem s_a8 : C_a8 (fun x => decide (List.length x.1 <= 4294967296)) (fun x => (x.1, ())) := S_a8 fun x hx => ⟨0, (ev_a8 0 x.1).trans (p_clone (α := Int) x.1 (of_decide_eq_true hx))⟩
end Go.Proofs.Ytijolcgmciclhaa

set_option linter.unusedVariables false
set_option linter.unusedSimpArgs false
namespace Go.Proofs.Ytijolcgmciclhaa
open Go.Vm
theorem Qc3 {S : Sh} {l : List S.den} {i : Nat} {x : S.den} (h : i < l.length) : rdL (e := S) (l.set i x) (i : Int) = x := by
  unfold rdL
  rw [Int.toNat_natCast, List.getD_eq_getElem?_getD, List.getElem?_set_self h]; rfl
theorem Qed (a b : Bool) : same a b = (a == b) := by
  rw [Bool.eq_iff_iff, Qa2]; exact beq_iff_eq.symm
def smTs (l : List MTst) : Bool := decide (l.length <= 4294967296) && l.all (fun t => decide (t.2.2.2.2.length <= 4294967296))
theorem Qiy {l : List MTst} : smTs l = true ↔ l.length <= 4294967296 /\ ∀ t ∈ l, t.2.2.2.2.length <= 4294967296 := by
  unfold smTs; simp only [Bool.and_eq_true, decide_eq_true_eq, List.all_eq_true]
theorem Qle {b : MBat} (h : smB b = true) : smTs b.2.2.1 = true /\ decide (List.length b.2.2.2.2.1 <= 4294967296) = true /\ decide (List.length b.2.2.2.2.2 <= 4294967296) = true := by
  obtain ⟨h1, h2, h3, h4⟩ := Qjn.1 h
  exact ⟨Qiy.2 ⟨h1, h2⟩, decide_eq_true h3, decide_eq_true h4⟩
def smBs (l : List MBat) : Bool := decide (l.length <= 4294967296) && l.all smB
theorem Qiz {l : List MBat} : smBs l = true ↔ l.length <= 4294967296 /\ ∀ b ∈ l, smB b = true := by
  unfold smBs; simp only [Bool.and_eq_true, decide_eq_true_eq, List.all_eq_true]
theorem Qi8 {h : MHou} (hh : houSm h = true) : decide (List.length h.1 <= 4294967296) = true /\ smS h.2.1 = true /\ smBs h.2.2 = true := by
  obtain ⟨h1, h2, h3, h4⟩ := Qhz.1 hh
  exact ⟨decide_eq_true h1, h2, Qiz.2 ⟨h3, h4⟩⟩
theorem s_a0 : C_a0 (fun x => decide (List.length x.1 <= 4294967296)) (fun x => (x.1, ())) := S_a0 fun x hx => ⟨List.length x.1 + 1, (ev_a0 _ x.1).trans (by
  have hx : List.length x.1 <= 4294967296 := of_decide_eq_true hx
  rw [p_make hx]
  refine (Qly (α := Int) x.1 (fun y => y) (fun k i out => r_a0  (x.1, ()) k pt1 (h0_a0 x.1 (i : Int) out)) (fun k out ho => ?_) (fun k i y r out hd hi ho => ?_) _ ?_).trans ?_
  · rw [rd0_a0, Qaj (Nat.le_refl _)]; rfl
  · rw [rd0_a0, Qas hi, Qas (ho.symm ▸ hi), Qak hi, Qap (by omega), Int.toNat_natCast, Qaf hd]; rfl
  · rw [List.length_replicate]; exact Int.toNat_natCast _
  · rw [List.map_id'])⟩
theorem s_ak : C_ak (fun _ => true) (fun x => (same x.1 x.2.1, ())) := S_ak fun x _ => ⟨0, (ev_ak 0 x.1 x.2.1).trans (by
  have key : ∀ a b : MSig, (bif (bif (decide (a.1 = b.1)) then false else true) then (some (false, ())) else (bif (bif (decide (a.2.1 = b.2.1)) then false else true) then (some (false, ())) else (bif (bif (decide (a.2.2 = b.2.2)) then false else true) then (some (false, ())) else (some (true, ()))))) = some (same a b, ()) := fun a b => by
    obtain ⟨a1, a2, a3⟩ := a
    obtain ⟨b1, b2, b3⟩ := b
    rw [Qbt (a1, a2, a3) b1 (b2, b3), Qbt (a2, a3) b2 b3]
    dsimp only
    rw [Qan, Qan, Qan]
    cases same a1 b1 <;> cases same a2 b2 <;> cases same a3 b3 <;> rfl
  exact key x.1 x.2.1)⟩
theorem s_ab : C_ab (fun x => decide (List.length x.1 <= 4294967296)) (fun x => (same x.1 x.2.1, ())) := S_ab fun x hx => ⟨List.length x.1 + 1, (ev_ab _ x.1 x.2.1).trans (p_eqS fun hl => by
  have hx : List.length x.1 <= 4294967296 := of_decide_eq_true hx
  refine Qb7 (α := Int) x.1 x.2.1 hl (fun k i => r_ab  (x.1, x.2.1, ()) k pt1 (h0_ab x.1 x.2.1 (i : Int))) (fun k => ?_) (fun k i y z r r' hd hd' hi hi' => ?_)
  · rw [rd0_ab, Qaj (Nat.le_refl _)]; rfl
  · rw [rd0_ab, Qas hi, Qas hi', Qak hi, Qap (by omega), Qaf hd, Qaf hd']
    rw [Qan]; cases same y z <;> rfl)⟩
theorem s_am : C_am (fun x => decide (List.length x.1 <= 4294967296)) (fun x => (same x.1 x.2.1, ())) := S_am fun x hx => ⟨List.length x.1 + 1, (ev_am _ x.1 x.2.1).trans (p_eqS fun hl => by
  have hx : List.length x.1 <= 4294967296 := of_decide_eq_true hx
  refine Qb7 (α := Bool) x.1 x.2.1 hl (fun k i => r_am  (x.1, x.2.1, ()) k pt1 (h0_am x.1 x.2.1 (i : Int))) (fun k => ?_) (fun k i y z r r' hd hd' hi hi' => ?_)
  · rw [rd0_am, Qaj (Nat.le_refl _)]; rfl
  · rw [rd0_am, Qas hi, Qas hi', Qak hi, Qap (by omega), Qaf hd, Qaf hd']
    rw [Qed]; cases y <;> cases z <;> rfl)⟩
theorem s_al : C_al (fun x => decide (List.length x.1 <= 4294967296)) (fun x => (same x.1 x.2.1, ())) := S_al s_ak fun x hx => ⟨List.length x.1 + 1, (ev_al _ x.1 x.2.1).trans (p_eqS fun hl => by
  have hx : List.length x.1 <= 4294967296 := of_decide_eq_true hx
  refine Qb7 (α := MSig) x.1 x.2.1 hl (fun k i => r_al (fun x => (same x.1 x.2.1, ())) (x.1, x.2.1, ()) k pt1 (h0_al x.1 x.2.1 (i : Int))) (fun k => ?_) (fun k i y z r r' hd hd' hi hi' => ?_)
  · rw [rd0_al, Qaj (Nat.le_refl _)]; rfl
  · rw [rd0_al, Qas hi, Qas hi', Qak hi, Qap (by omega), Qaf hd, Qaf hd']
    show (bif (bif same y z then false else true) then _ else _) = _
    cases same y z <;> rfl)⟩
theorem s_aj : C_aj (fun x => smTs x.1) (fun x => (same x.1 x.2.1, ())) := S_aj s_ai fun x hx => ⟨List.length x.1 + 1, (ev_aj _ x.1 x.2.1).trans (p_eqS fun hl => by
  obtain ⟨h1, h2⟩ := Qiy.1 hx
  have h1 : List.length x.1 <= 4294967296 := h1
  refine Qb7 (α := MTst) x.1 x.2.1 hl (fun k i => r_aj (fun x => (same x.1 x.2.1, ())) (fun x => decide (List.length x.1.2.2.2.2 <= 4294967296)) (x.1, x.2.1, ()) k pt1 (h0_aj x.1 x.2.1 (i : Int))) (fun k => ?_) (fun k i y z r r' hd hd' hi hi' => ?_)
  · rw [rd0_aj, Qaj (Nat.le_refl _)]; rfl
  · have h3 : decide (List.length y.2.2.2.2 <= 4294967296) = true := decide_eq_true (h2 y (Qet hd))
    rw [rd0_aj, Qas hi, Qas hi', Qak hi, Qap (by omega), Qaf hd, Qaf hd', cl_eq h3]
    show (bif (bif same y z then false else true) then _ else _) = _
    cases same y z <;> rfl)⟩
theorem Qkd (a b : MBat) : (same a.1 b.1 && (same a.2.1 b.2.1 && (same a.2.2.1 b.2.2.1 && (same a.2.2.2.1 b.2.2.2.1 && (same a.2.2.2.2.1 b.2.2.2.2.1 && (same a.2.2.2.2.2 b.2.2.2.2.2 && true)))))) = same a b := by
  rw [Bool.and_true, Qah, Qah, Qah, Qah, Qah]
theorem s_an : C_an (fun x => smB x.1) (fun x => (same x.1 x.2.1, ())) := S_an s_aj s_al s_am fun x hx => ⟨0, (ev_an 0 x.1 x.2.1).trans (by
  obtain ⟨a, b, u⟩ := x
  change MBat at a
  change MBat at b
  obtain ⟨h1, h2, h3⟩ := Qle hx
  dsimp only at h1 h2 h3 ⊢
  rw [cl_eq h1, cl_eq h2, cl_eq h3, <- Qkd a b, Qan, Qan, Qan]
  exact Qay (Qay (Qay (Qay (Qay (Qay rfl))))))⟩
theorem s_ao : C_ao (fun x => smBs x.1) (fun x => (same x.1 x.2.1, ())) := S_ao s_an fun x hx => ⟨List.length x.1 + 1, (ev_ao _ x.1 x.2.1).trans (p_eqS fun hl => by
  obtain ⟨h1, h2⟩ := Qiz.1 hx
  have h1 : List.length x.1 <= 4294967296 := h1
  refine Qb7 (α := MBat) x.1 x.2.1 hl (fun k i => r_ao (fun x => (same x.1 x.2.1, ())) (fun x => smB x.1) (x.1, x.2.1, ()) k pt1 (h0_ao x.1 x.2.1 (i : Int))) (fun k => ?_) (fun k i y z r r' hd hd' hi hi' => ?_)
  · rw [rd0_ao, Qaj (Nat.le_refl _)]; rfl
  · have h3 : smB y = true := h2 y (Qet hd)
    rw [rd0_ao, Qas hi, Qas hi', Qak hi, Qap (by omega), Qaf hd, Qaf hd', cl_eq h3]
    show (bif (bif same y z then false else true) then _ else _) = _
    cases same y z <;> rfl)⟩
theorem s_ap : C_ap (fun x => houSm x.1) (fun x => (same x.1 x.2.1, ())) := S_ap s_ab s_ag s_ao fun x hx => ⟨0, (ev_ap 0 x.1 x.2.1).trans (by
  obtain ⟨a, b, u⟩ := x
  change MHou at a
  change MHou at b
  obtain ⟨h1, h2, h3⟩ := Qi8 hx
  dsimp only at h1 h2 h3 ⊢
  rw [cl_eq h1, cl_eq h2, cl_eq h3, <- Qgu a b]
  exact Qay (Qay (Qay rfl)))⟩
theorem s_aw : C_aw (fun x => mkPre (szL (fun _ => 1)) x.1 x.2.1) (fun x => ((markL mkInt x.1 x.2.1).2, ((markL mkInt x.1 x.2.1).1, ()))) := S_aw fun x hx => ⟨List.length x.1 + 1, (ev_aw _ x.1 x.2.1).trans (by
  obtain ⟨h1, h2⟩ := Qab.1 hx
  have hl : List.length x.1 <= szL (fun _ => 1) x.1 := Qax (fun _ => by decide) x.1
  refine Qbq (α := Int) (mk := mkInt) (sz := fun _ => 1) Qa5.go x.1 4294967296 (fun c out => some (c, (out, ()))) (fun k i c out => r_aw (x.1, x.2.1, ()) k pt0 (h0_aw x.1 x.2.1 c (i : Int) out)) (fun k c out ho => ?_) (fun k i y r c out hd hi ho h0 hB => ?_) x.2.1 h1 h2
  · rw [rd0_aw]
    try simp only [lt_eq]
    rw [Qaj (show out.length <= List.length x.1 by omega)]; rfl
  · have hi' : i < out.length := by omega
    have hB : c + 1 <= 4294967296 := hB
    rw [rd0_aw]
    have hr : ∀ y : Int, rdL (e := I) (out.set i y) (i : Int) = y := fun y => Qc3 hi'
    have h0i : decide ((0 : Int) <= (i : Int)) = true := decide_eq_true (by omega)
    have h3 : (bif (decide ((3 : Int) = (0 : Int))) then false else true) = true := rfl
    simp only [lt_eq, h3, Int.toNat_natCast, List.length_set, hr, List.set_set, h0i, Qak hi', cond_true, Qap (show i <= 4294967296 by omega)]
    rw [Qac (x := c + 1) (by omega) (by omega)]
    rfl)⟩
theorem s_b8 : C_b8 (fun x => mkPre (szL (fun _ => 1)) x.1 x.2.1) (fun x => (hdOf (markL mkInt) x.1 x.2.1, ())) := S_b8 fun x hx => ⟨List.length x.1 + 1, (ev_b8 _ x.1 x.2.1).trans (by
  obtain ⟨h1, h2⟩ := Qab.1 hx
  have hl : List.length x.1 <= szL (fun _ => 1) x.1 := Qax (fun _ => by decide) x.1
  refine Qbr (α := Int) (mk := mkInt) (sz := fun _ => 1) Qa5 x.1 4294967296 (fun k i c => r_b8 (x.1, x.2.1, ()) k pt0 (h0_b8 x.1 x.2.1 c (i : Int))) (fun k c => ?_) (fun k i y r c hd hi h0 hB => ?_) x.2.1 h1 h2
  · rw [rd0_b8]
    try simp only [lt_eq]
    rw [Qaj (Nat.le_refl _)]; rfl
  · have hB : c + 1 <= 4294967296 := hB
    rw [rd0_b8]
    have h0i : decide ((0 : Int) <= (i : Int)) = true := decide_eq_true (by omega)
    have h3 : (bif (decide ((3 : Int) = (0 : Int))) then false else true) = true := rfl
    simp only [lt_eq, h3, h0i, Qak hi, cond_true, Qap (show i <= 4294967296 by omega), Qaf hd]
    rw [Qac (x := c + 1) (by omega) (by omega)]
    unfold mkInt
    simp only [Qbt, Qan]
    cases same y c <;> rfl)⟩
theorem s_b2 : C_b2 (fun x => mkPre (szL (fun _ => 1)) x.1 x.2.1) (fun x => ((markL mkBool x.1 x.2.1).2, ((markL mkBool x.1 x.2.1).1, ()))) := S_b2 fun x hx => ⟨List.length x.1 + 1, (ev_b2 _ x.1 x.2.1).trans (by
  obtain ⟨h1, h2⟩ := Qab.1 hx
  have hl : List.length x.1 <= szL (fun _ => 1) x.1 := Qax (fun _ => by decide) x.1
  refine Qbq (α := Bool) (mk := mkBool) (sz := fun _ => 1) Qcn.go x.1 4294967296 (fun c out => some (c, (out, ()))) (fun k i c out => r_b2 (x.1, x.2.1, ()) k pt0 (h0_b2 x.1 x.2.1 c (i : Int) out)) (fun k c out ho => ?_) (fun k i y r c out hd hi ho h0 hB => ?_) x.2.1 h1 h2
  · rw [rd0_b2]
    try simp only [lt_eq]
    rw [Qaj (show out.length <= List.length x.1 by omega)]; rfl
  · have hi' : i < out.length := by omega
    have hB : c + 1 <= 4294967296 := hB
    rw [rd0_b2]
    have hr : ∀ y : Bool, rdL (e := Sh.bool) (out.set i y) (i : Int) = y := fun y => Qc3 hi'
    have h0i : decide ((0 : Int) <= (i : Int)) = true := decide_eq_true (by omega)
    have h3 : (bif (decide ((3 : Int) = (0 : Int))) then false else true) = true := rfl
    simp only [lt_eq, h3, Int.toNat_natCast, List.length_set, hr, List.set_set, h0i, Qak hi', cond_true, Qap (show i <= 4294967296 by omega)]
    rw [Qac (x := c + 1) (by omega) (by omega)]
    rfl)⟩
theorem s_be : C_be (fun x => mkPre (szL (fun _ => 1)) x.1 x.2.1) (fun x => (hdOf (markL mkBool) x.1 x.2.1, ())) := S_be fun x hx => ⟨List.length x.1 + 1, (ev_be _ x.1 x.2.1).trans (by
  obtain ⟨h1, h2⟩ := Qab.1 hx
  have hl : List.length x.1 <= szL (fun _ => 1) x.1 := Qax (fun _ => by decide) x.1
  refine Qbr (α := Bool) (mk := mkBool) (sz := fun _ => 1) Qcn x.1 4294967296 (fun k i c => r_be (x.1, x.2.1, ()) k pt0 (h0_be x.1 x.2.1 c (i : Int))) (fun k c => ?_) (fun k i y r c hd hi h0 hB => ?_) x.2.1 h1 h2
  · rw [rd0_be]
    try simp only [lt_eq]
    rw [Qaj (Nat.le_refl _)]; rfl
  · have hB : c + 1 <= 4294967296 := hB
    rw [rd0_be]
    have h0i : decide ((0 : Int) <= (i : Int)) = true := decide_eq_true (by omega)
    have h3 : (bif (decide ((3 : Int) = (0 : Int))) then false else true) = true := rfl
    simp only [lt_eq, h3, h0i, Qak hi, cond_true, Qap (show i <= 4294967296 by omega), Qaf hd]
    rw [Qac (x := c + 1) (by omega) (by omega)]
    unfold mkBool
    simp only [Qbt, Qan]
    try rw [Qed]
    generalize (y == _) = q
    cases q <;> rfl)⟩
theorem s_b1 : C_b1 (fun x => mkPre (szL (fun _ => 3)) x.1 x.2.1) (fun x => ((markL mkSig x.1 x.2.1).2, ((markL mkSig x.1 x.2.1).1, ()))) := S_b1 fun x hx => ⟨List.length x.1 + 1, (ev_b1 _ x.1 x.2.1).trans (by
  obtain ⟨h1, h2⟩ := Qab.1 hx
  have hl : List.length x.1 <= szL (fun _ => 3) x.1 := Qax (fun _ => by decide) x.1
  refine Qbq (α := MSig) (mk := mkSig) (sz := fun _ => 3) Qc1.go x.1 4294967296 (fun c out => some (c, (out, ()))) (fun k i c out => r_b1 (x.1, x.2.1, ()) k pt0 (h0_b1 x.1 x.2.1 c (i : Int) out)) (fun k c out ho => ?_) (fun k i y r c out hd hi ho h0 hB => ?_) x.2.1 h1 h2
  · rw [rd0_b1]
    try simp only [lt_eq]
    rw [Qaj (show out.length <= List.length x.1 by omega)]; rfl
  · have hi' : i < out.length := by omega
    have hB : c + 3 <= 4294967296 := hB
    rw [rd0_b1]
    have hr : ∀ y : MSig, rdL (e := S_BatSig) (out.set i y) (i : Int) = y := fun y => Qc3 hi'
    have h0i : decide ((0 : Int) <= (i : Int)) = true := decide_eq_true (by omega)
    have h3 : (bif (decide ((3 : Int) = (0 : Int))) then false else true) = true := rfl
    simp only [lt_eq, h3, Int.toNat_natCast, List.length_set, hr, List.set_set, h0i, Qak hi', cond_true, Qap (show i <= 4294967296 by omega)]
    rw [Qac (x := c + 1) (by omega) (by omega), Qac (x := c + 1 + 1) (by omega) (by omega), Qac (x := c + 1 + 1 + 1) (by omega) (by omega)]
    rfl)⟩
theorem s_bd : C_bd (fun x => mkPre (szL (fun _ => 3)) x.1 x.2.1) (fun x => (hdOf (markL mkSig) x.1 x.2.1, ())) := S_bd fun x hx => ⟨List.length x.1 + 1, (ev_bd _ x.1 x.2.1).trans (by
  obtain ⟨h1, h2⟩ := Qab.1 hx
  have hl : List.length x.1 <= szL (fun _ => 3) x.1 := Qax (fun _ => by decide) x.1
  refine Qbr (α := MSig) (mk := mkSig) (sz := fun _ => 3) Qc1 x.1 4294967296 (fun k i c => r_bd (x.1, x.2.1, ()) k pt0 (h0_bd x.1 x.2.1 c (i : Int))) (fun k c => ?_) (fun k i y r c hd hi h0 hB => ?_) x.2.1 h1 h2
  · rw [rd0_bd]
    try simp only [lt_eq]
    rw [Qaj (Nat.le_refl _)]; rfl
  · have hB : c + 3 <= 4294967296 := hB
    rw [rd0_bd]
    have h0i : decide ((0 : Int) <= (i : Int)) = true := decide_eq_true (by omega)
    have h3 : (bif (decide ((3 : Int) = (0 : Int))) then false else true) = true := rfl
    simp only [lt_eq, h3, h0i, Qak hi, cond_true, Qap (show i <= 4294967296 by omega), Qaf hd]
    rw [Qac (x := c + 1) (by omega) (by omega), Qac (x := c + 1 + 1) (by omega) (by omega), Qac (x := c + 1 + 1 + 1) (by omega) (by omega)]
    unfold mkSig
    simp only [Qbt, Qan]
    cases same y.1 c <;> cases same y.2.1 (c + 1) <;> cases same y.2.2 (c + 1 + 1) <;> rfl)⟩
theorem Qb2 {α β : Type} {v : α} {k : α -> β} {r : β} (h : ∀ t, t = v -> k t = r) : lt v k = r := h v rfl
theorem s_b0 : C_b0 (fun x => mkPre (szL szT) x.1 x.2.1) (fun x => ((markL mkTst x.1 x.2.1).2, ((markL mkTst x.1 x.2.1).1, ()))) := S_b0 s_az fun x hx => ⟨List.length x.1 + 1, (ev_b0 _ x.1 x.2.1).trans (by
  obtain ⟨h1, h2⟩ := Qab.1 hx
  have hl : List.length x.1 <= szL szT x.1 := Qax Qjl x.1
  refine Qbq (α := MTst) (mk := mkTst) (sz := szT) Qc2.go x.1 4294967296 (fun c out => some (c, (out, ()))) (fun k i c out => r_b0 (fun x => ((markL mkDec x.1 x.2.1).2, ((markL mkDec x.1 x.2.1).1, ()))) (fun x => mkPre (szL (fun _ => 2)) x.1 x.2.1) (x.1, x.2.1, ()) k pt0 (h0_b0 x.1 x.2.1 c (i : Int) out)) (fun k c out ho => ?_) (fun k i y r c out hd hi ho h0 hB => ?_) x.2.1 h1 h2
  · rw [rd0_b0]
    repeat with_reducible refine Qb2 fun t e => ?_
    rw [Qaj (show out.length <= List.length x.1 by omega)]; rfl
  · have hi' : i < out.length := by omega
    have hB : c + ((10 + szL (fun _ => 2) y.2.2.2.2 : Nat) : Int) <= 4294967296 := hB
    rw [rd0_b0]
    have hr : ∀ y : MTst, rdL (e := S_TstTest) (out.set i y) (i : Int) = y := fun y => Qc3 hi'
    have h0i : decide ((0 : Int) <= (i : Int)) = true := decide_eq_true (by omega)
    have hp : mkPre (szL (fun _ => 2)) y.2.2.2.2 (c + 1 + 1 + 1 + 1 + 1 + 1 + 1 + 1 + 1 + 1) = true := Qab.2 ⟨by omega, by omega⟩
    have hy := Qaf (S := S_TstTest) hd
    have e1 : w64 (c + 1) = c + 1 := Qac (by omega) (by omega)
    have e2 : w64 (c + 1 + 1) = c + 1 + 1 := Qac (by omega) (by omega)
    have e3 : w64 (c + 1 + 1 + 1) = c + 1 + 1 + 1 := Qac (by omega) (by omega)
    have e4 : w64 (c + 1 + 1 + 1 + 1) = c + 1 + 1 + 1 + 1 := Qac (by omega) (by omega)
    have e5 : w64 (c + 1 + 1 + 1 + 1 + 1) = c + 1 + 1 + 1 + 1 + 1 := Qac (by omega) (by omega)
    have e6 : w64 (c + 1 + 1 + 1 + 1 + 1 + 1) = c + 1 + 1 + 1 + 1 + 1 + 1 := Qac (by omega) (by omega)
    have e7 : w64 (c + 1 + 1 + 1 + 1 + 1 + 1 + 1) = c + 1 + 1 + 1 + 1 + 1 + 1 + 1 := Qac (by omega) (by omega)
    have e8 : w64 (c + 1 + 1 + 1 + 1 + 1 + 1 + 1 + 1) = c + 1 + 1 + 1 + 1 + 1 + 1 + 1 + 1 := Qac (by omega) (by omega)
    have e9 : w64 (c + 1 + 1 + 1 + 1 + 1 + 1 + 1 + 1 + 1) = c + 1 + 1 + 1 + 1 + 1 + 1 + 1 + 1 + 1 := Qac (by omega) (by omega)
    have e10 : w64 (c + 1 + 1 + 1 + 1 + 1 + 1 + 1 + 1 + 1 + 1) = c + 1 + 1 + 1 + 1 + 1 + 1 + 1 + 1 + 1 + 1 := Qac (by omega) (by omega)
    repeat
      with_reducible refine Qb2 fun t e => ?_
      try simp only [hy, hr, e1, e2, e3, e4, e5, e6, e7, e8, e9, e10, List.set_set, Int.toNat_natCast] at e
      subst t
    simp only [List.length_set, h0i, Qak hi', cond_true, Qap (show i <= 4294967296 by omega), e10]
    rw [cl_eq hp]
    simp only [Int.toNat_natCast, List.set_set]
    rfl)⟩
theorem s_bc : C_bc (fun x => mkPre (szL szT) x.1 x.2.1) (fun x => (hdOf (markL mkTst) x.1 x.2.1, ())) := S_bc s_bb fun x hx => ⟨List.length x.1 + 1, (ev_bc _ x.1 x.2.1).trans (by
  obtain ⟨h1, h2⟩ := Qab.1 hx
  have hl : List.length x.1 <= szL szT x.1 := Qax Qjl x.1
  refine Qbr (α := MTst) (mk := mkTst) (sz := szT) Qc2 x.1 4294967296 (fun k i c => r_bc (fun x => (hdOf (markL mkDec) x.1 x.2.1, ())) (fun x => mkPre (szL (fun _ => 2)) x.1 x.2.1) (x.1, x.2.1, ()) k pt0 (h0_bc x.1 x.2.1 c (i : Int))) (fun k c => ?_) (fun k i y r c hd hi h0 hB => ?_) x.2.1 h1 h2
  · rw [rd0_bc]
    repeat with_reducible refine Qb2 fun t e => ?_
    rw [Qaj (Nat.le_refl _)]; rfl
  · have hB : c + ((10 + szL (fun _ => 2) y.2.2.2.2 : Nat) : Int) <= 4294967296 := hB
    have hp : mkPre (szL (fun _ => 2)) y.2.2.2.2 (c + 1 + 1 + 1 + 1 + 1 + 1 + 1 + 1 + 1 + 1) = true := Qab.2 ⟨by omega, by omega⟩
    have h0i : decide ((0 : Int) <= (i : Int)) = true := decide_eq_true (by omega)
    have hy := Qaf (S := S_TstTest) hd
    have e1 : w64 (c + 1) = c + 1 := Qac (by omega) (by omega)
    have e2 : w64 (c + 1 + 1) = c + 1 + 1 := Qac (by omega) (by omega)
    have e3 : w64 (c + 1 + 1 + 1) = c + 1 + 1 + 1 := Qac (by omega) (by omega)
    have e4 : w64 (c + 1 + 1 + 1 + 1) = c + 1 + 1 + 1 + 1 := Qac (by omega) (by omega)
    have e5 : w64 (c + 1 + 1 + 1 + 1 + 1) = c + 1 + 1 + 1 + 1 + 1 := Qac (by omega) (by omega)
    have e6 : w64 (c + 1 + 1 + 1 + 1 + 1 + 1) = c + 1 + 1 + 1 + 1 + 1 + 1 := Qac (by omega) (by omega)
    have e7 : w64 (c + 1 + 1 + 1 + 1 + 1 + 1 + 1) = c + 1 + 1 + 1 + 1 + 1 + 1 + 1 := Qac (by omega) (by omega)
    have e8 : w64 (c + 1 + 1 + 1 + 1 + 1 + 1 + 1 + 1) = c + 1 + 1 + 1 + 1 + 1 + 1 + 1 + 1 := Qac (by omega) (by omega)
    have e9 : w64 (c + 1 + 1 + 1 + 1 + 1 + 1 + 1 + 1 + 1) = c + 1 + 1 + 1 + 1 + 1 + 1 + 1 + 1 + 1 := Qac (by omega) (by omega)
    have e10 : w64 (c + 1 + 1 + 1 + 1 + 1 + 1 + 1 + 1 + 1 + 1) = c + 1 + 1 + 1 + 1 + 1 + 1 + 1 + 1 + 1 + 1 := Qac (by omega) (by omega)
    rw [rd0_bc]
    repeat
      with_reducible refine Qb2 fun t e => ?_
      try simp only [hy, e1, e2, e3, e4, e5, e6, e7, e8, e9, e10] at e
      subst t
    simp only [h0i, Qak hi, cond_true, Qap (show i <= 4294967296 by omega), e10]
    rw [cl_eq hp]
    have hg := Qc0.list.go y.2.2.2.2 (c + 1 + 1 + 1 + 1 + 1 + 1 + 1 + 1 + 1 + 1)
    unfold mkTst
    simp only [Qbt, Qan]
    generalize same y.1.1 _ = b1
    generalize same y.1.2.1.1 _ = b2
    generalize same y.1.2.1.2 _ = b3
    generalize same y.1.2.2.1.1 _ = b4
    generalize same y.1.2.2.1.2 _ = b5
    generalize same y.1.2.2.2 _ = b6
    generalize same y.2.1 _ = b7
    generalize same y.2.2.1.1 _ = b8
    generalize same y.2.2.1.2 _ = b9
    generalize same y.2.2.2.1 _ = b10
    rcases Qc0.list.hd (x := y.2.2.2.2) (k := c + 1 + 1 + 1 + 1 + 1 + 1 + 1 + 1 + 1 + 1) (by omega) with ⟨g1, g2, g3⟩ | ⟨g1, g2, g3⟩
    · rw [g2, g3]
      cases b1 <;> cases b2 <;> cases b3 <;> cases b4 <;> cases b5 <;> cases b6 <;> cases b7 <;> cases b8 <;> cases b9 <;> cases b10 <;> rfl
    · have e : hdOf (markL mkDec) y.2.2.2.2 (c + 1 + 1 + 1 + 1 + 1 + 1 + 1 + 1 + 1 + 1) = (markL mkDec y.2.2.2.2 (c + 1 + 1 + 1 + 1 + 1 + 1 + 1 + 1 + 1 + 1)).2 := by rw [g2, hg]
      rw [g3, e, decide_eq_false (show ¬ (markL mkDec y.2.2.2.2 (c + 1 + 1 + 1 + 1 + 1 + 1 + 1 + 1 + 1 + 1)).2 < 0 by omega)]
      cases b1 <;> try rfl
      cases b2 <;> try rfl
      cases b3 <;> try rfl
      cases b4 <;> try rfl
      cases b5 <;> try rfl
      cases b6 <;> try rfl
      cases b7 <;> try rfl
      cases b8 <;> try rfl
      cases b9 <;> try rfl
      cases b10 <;> rfl)⟩
theorem Qlf (l : List MTst) (k : Int) : (markL mkTst l k).2 = k + szL szT l := Qc2.list.go l k
theorem Qlg (l : List MSig) (k : Int) : (markL mkSig l k).2 = k + szL (fun _ => 3) l := Qc1.list.go l k
theorem Qmp (l : List Bool) (k : Int) : (markL mkBool l k).2 = k + szL (fun _ => 1) l := Qcn.list.go l k
theorem s_b3 : C_b3 (fun x => mkPre (szL szB) x.1 x.2.1) (fun x => ((markL mkBat x.1 x.2.1).2, ((markL mkBat x.1 x.2.1).1, ()))) := S_b3 s_b0 s_b1 s_b2 fun x hx => ⟨List.length x.1 + 1, (ev_b3 _ x.1 x.2.1).trans (by
  obtain ⟨h1, h2⟩ := Qab.1 hx
  have hl : List.length x.1 <= szL szB x.1 := Qax Qjm x.1
  refine Qbq (α := MBat) (mk := mkBat) (sz := szB) Qce.go x.1 4294967296 (fun c out => some (c, (out, ()))) (fun k i c out => r_b3 (fun x => ((markL mkTst x.1 x.2.1).2, ((markL mkTst x.1 x.2.1).1, ()))) (fun x => mkPre (szL szT) x.1 x.2.1) (fun x => ((markL mkSig x.1 x.2.1).2, ((markL mkSig x.1 x.2.1).1, ()))) (fun x => mkPre (szL (fun _ => 3)) x.1 x.2.1) (fun x => ((markL mkBool x.1 x.2.1).2, ((markL mkBool x.1 x.2.1).1, ()))) (fun x => mkPre (szL (fun _ => 1)) x.1 x.2.1) (x.1, x.2.1, ()) k pt0 (h0_b3 x.1 x.2.1 c (i : Int) out)) (fun k c out ho => ?_) (fun k i y r c out hd hi ho h0 hB => ?_) x.2.1 h1 h2
  · rw [rd0_b3]
    repeat with_reducible refine Qb2 fun t e => ?_
    rw [Qaj (show out.length <= List.length x.1 by omega)]; rfl
  · have hi' : i < out.length := by omega
    have hB : c + ((3 + szL szT y.2.2.1 + szL (fun _ => 3) y.2.2.2.2.1 + szL (fun _ => 1) y.2.2.2.2.2 : Nat) : Int) <= 4294967296 := hB
    have g1 := Qlf y.2.2.1 (c + 1 + 1)
    have g2 := Qlg y.2.2.2.2.1 ((markL mkTst y.2.2.1 (c + 1 + 1)).2 + 1)
    rw [rd0_b3]
    have hr : ∀ y : MBat, rdL (e := S_BatBatch) (out.set i y) (i : Int) = y := fun y => Qc3 hi'
    have h0i : decide ((0 : Int) <= (i : Int)) = true := decide_eq_true (by omega)
    have hp1 : mkPre (szL szT) y.2.2.1 (c + 1 + 1) = true := Qab.2 ⟨by omega, by omega⟩
    have hp2 : mkPre (szL (fun _ => 3)) y.2.2.2.2.1 ((markL mkTst y.2.2.1 (c + 1 + 1)).2 + 1) = true := Qab.2 ⟨by omega, by omega⟩
    have hp3 : mkPre (szL (fun _ => 1)) y.2.2.2.2.2 (markL mkSig y.2.2.2.2.1 ((markL mkTst y.2.2.1 (c + 1 + 1)).2 + 1)).2 = true := Qab.2 ⟨by omega, by omega⟩
    have hy := Qaf (S := S_BatBatch) hd
    have e1 : w64 (c + 1) = c + 1 := Qac (by omega) (by omega)
    have e2 : w64 (c + 1 + 1) = c + 1 + 1 := Qac (by omega) (by omega)
    have e3 : w64 ((markL mkTst y.2.2.1 (c + 1 + 1)).2 + 1) = (markL mkTst y.2.2.1 (c + 1 + 1)).2 + 1 := Qac (by omega) (by omega)
    repeat
      with_reducible refine Qb2 fun t e => ?_
      try simp only [hy, hr, e1, e2, e3, List.set_set, Int.toNat_natCast] at e
      subst t
    simp only [List.length_set, h0i, Qak hi', cond_true, Qap (show i <= 4294967296 by omega), hp1]
    rw [cl_eq hp2]
    try dsimp only
    try simp only [Int.toNat_natCast, List.length_set, Qak hi', h0i, cond_true, hr, List.set_set]
    rw [cl_eq hp3]
    simp only [Int.toNat_natCast, List.set_set]
    rfl)⟩
theorem s_bf : C_bf (fun x => mkPre (szL szB) x.1 x.2.1) (fun x => (hdOf (markL mkBat) x.1 x.2.1, ())) := S_bf s_bc s_bd s_be fun x hx => ⟨List.length x.1 + 1, (ev_bf _ x.1 x.2.1).trans (by
  obtain ⟨h1, h2⟩ := Qab.1 hx
  have hl : List.length x.1 <= szL szB x.1 := Qax Qjm x.1
  refine Qbr (α := MBat) (mk := mkBat) (sz := szB) Qce x.1 4294967296 (fun k i c => r_bf (fun x => (hdOf (markL mkTst) x.1 x.2.1, ())) (fun x => mkPre (szL szT) x.1 x.2.1) (fun x => (hdOf (markL mkSig) x.1 x.2.1, ())) (fun x => mkPre (szL (fun _ => 3)) x.1 x.2.1) (fun x => (hdOf (markL mkBool) x.1 x.2.1, ())) (fun x => mkPre (szL (fun _ => 1)) x.1 x.2.1) (x.1, x.2.1, ()) k pt0 (h0_bf x.1 x.2.1 c (i : Int))) (fun k c => ?_) (fun k i y r c hd hi h0 hB => ?_) x.2.1 h1 h2
  · rw [rd0_bf]
    repeat with_reducible refine Qb2 fun t e => ?_
    rw [Qaj (Nat.le_refl _)]; rfl
  · have hB : c + ((3 + szL szT y.2.2.1 + szL (fun _ => 3) y.2.2.2.2.1 + szL (fun _ => 1) y.2.2.2.2.2 : Nat) : Int) <= 4294967296 := hB
    have g1 := Qlf y.2.2.1 (c + 1 + 1)
    have g2 := Qlg y.2.2.2.2.1 ((markL mkTst y.2.2.1 (c + 1 + 1)).2 + 1)
    have g3 := Qmp y.2.2.2.2.2 (markL mkSig y.2.2.2.2.1 ((markL mkTst y.2.2.1 (c + 1 + 1)).2 + 1)).2
    have h0i : decide ((0 : Int) <= (i : Int)) = true := decide_eq_true (by omega)
    have hp1 : mkPre (szL szT) y.2.2.1 (c + 1 + 1) = true := Qab.2 ⟨by omega, by omega⟩
    have hp2 : mkPre (szL (fun _ => 3)) y.2.2.2.2.1 ((markL mkTst y.2.2.1 (c + 1 + 1)).2 + 1) = true := Qab.2 ⟨by omega, by omega⟩
    have hp3 : mkPre (szL (fun _ => 1)) y.2.2.2.2.2 (markL mkSig y.2.2.2.2.1 ((markL mkTst y.2.2.1 (c + 1 + 1)).2 + 1)).2 = true := Qab.2 ⟨by omega, by omega⟩
    have hy := Qaf (S := S_BatBatch) hd
    have e1 : w64 (c + 1) = c + 1 := Qac (by omega) (by omega)
    have e2 : w64 (c + 1 + 1) = c + 1 + 1 := Qac (by omega) (by omega)
    have e3 : w64 ((markL mkTst y.2.2.1 (c + 1 + 1)).2 + 1) = (markL mkTst y.2.2.1 (c + 1 + 1)).2 + 1 := Qac (by omega) (by omega)
    rw [rd0_bf]
    repeat
      with_reducible refine Qb2 fun t e => ?_
      try simp only [hy, e1, e2] at e
      subst t
    simp only [h0i, Qak hi, cond_true, Qap (show i <= 4294967296 by omega), e2]
    unfold mkBat
    simp only [Qbt, Qan]
    rw [cl_eq hp1]
    generalize same y.1 _ = b1
    generalize same y.2.1 _ = b2
    rcases Qc2.list.hd (x := y.2.2.1) (k := c + 1 + 1) (by omega) with ⟨q1, q2, q3⟩ | ⟨q1, q2, q3⟩
    · rw [q2, q3]
      cases b1 <;> cases b2 <;> rfl
    · have e : hdOf (markL mkTst) y.2.2.1 (c + 1 + 1) = (markL mkTst y.2.2.1 (c + 1 + 1)).2 := by rw [q2, g1]
      rw [q3, e, decide_eq_false (show ¬ (markL mkTst y.2.2.1 (c + 1 + 1)).2 < 0 by omega), e3, cl_eq hp2]
      cases b1
      · rfl
      cases b2
      · rfl
      generalize same y.2.2.2.1 _ = b3
      cases b3
      · rfl
      rcases Qc1.list.hd (x := y.2.2.2.2.1) (k := (markL mkTst y.2.2.1 (c + 1 + 1)).2 + 1) (by omega) with ⟨q1, q2, q3⟩ | ⟨q1, q2, q3⟩
      · rw [q2, q3]; rfl
      · have e : hdOf (markL mkSig) y.2.2.2.2.1 ((markL mkTst y.2.2.1 (c + 1 + 1)).2 + 1) = (markL mkSig y.2.2.2.2.1 ((markL mkTst y.2.2.1 (c + 1 + 1)).2 + 1)).2 := by rw [q2, g2]
        rw [q3, e, decide_eq_false (show ¬ (markL mkSig y.2.2.2.2.1 ((markL mkTst y.2.2.1 (c + 1 + 1)).2 + 1)).2 < 0 by omega), cl_eq hp3]
        rcases Qcn.list.hd (x := y.2.2.2.2.2) (k := (markL mkSig y.2.2.2.2.1 ((markL mkTst y.2.2.1 (c + 1 + 1)).2 + 1)).2) (by omega) with ⟨q1, q2, q3⟩ | ⟨q1, q2, q3⟩
        · rw [q2, q3]; rfl
        · have e : hdOf (markL mkBool) y.2.2.2.2.2 (markL mkSig y.2.2.2.2.1 ((markL mkTst y.2.2.1 (c + 1 + 1)).2 + 1)).2 = (markL mkBool y.2.2.2.2.2 (markL mkSig y.2.2.2.2.1 ((markL mkTst y.2.2.1 (c + 1 + 1)).2 + 1)).2).2 := by rw [q2, g3]
          rw [q3, e, decide_eq_false (show ¬ (markL mkBool y.2.2.2.2.2 (markL mkSig y.2.2.2.2.1 ((markL mkTst y.2.2.1 (c + 1 + 1)).2 + 1)).2).2 < 0 by omega)]
          rfl)⟩
theorem s_b4 : C_b4 (fun x => mkPre szH x.1 x.2.1) (fun x => ((mkHou x.1 x.2.1).2, ((mkHou x.1 x.2.1).1, ()))) := S_b4 s_aw s_ay s_b3 fun x hx => ⟨0, (ev_b4 0 x.1 x.2.1).trans (by
  obtain ⟨x, k, u⟩ := x
  change MHou at x
  change Int at k
  obtain ⟨h1, h2⟩ := Qab.1 hx
  have h1 : 0 <= k := h1
  have h2 : k + ((szL (fun _ => 1) x.1 + szL szS x.2.1 + szL szB x.2.2 : Nat) : Int) <= 4294967296 := h2
  dsimp only
  have g0 := Qa5.list.go x.1 k
  have g1 := Qcd.list.go x.2.1 (markL mkInt x.1 k).2
  have g2 := Qce.list.go x.2.2 (markL mkSpc x.2.1 (markL mkInt x.1 k).2).2
  rw [cl_eq (show mkPre (szL (fun _ => 1)) x.1 k = true from Qab.2 ⟨by omega, by omega⟩)]
  try dsimp only
  rw [cl_eq (show mkPre (szL szS) x.2.1 (markL mkInt x.1 k).2 = true from Qab.2 ⟨by omega, by omega⟩)]
  try dsimp only
  rw [cl_eq (show mkPre (szL szB) x.2.2 (markL mkSpc x.2.1 (markL mkInt x.1 k).2).2 = true from Qab.2 ⟨by omega, by omega⟩)]
  try dsimp only
  rfl)⟩
theorem s_bg : C_bg (fun x => mkPre szH x.1 x.2.1) (fun x => (hdOf mkHou x.1 x.2.1, ())) := S_bg s_b8 s_ba s_bf fun x hx => ⟨0, (ev_bg 0 x.1 x.2.1).trans (by
  obtain ⟨x, k, u⟩ := x
  change MHou at x
  change Int at k
  obtain ⟨h1, h2⟩ := Qab.1 hx
  have h1 : 0 <= k := h1
  have h2 : k + ((szL (fun _ => 1) x.1 + szL szS x.2.1 + szL szB x.2.2 : Nat) : Int) <= 4294967296 := h2
  dsimp only
  have g0 := Qa5.list.go x.1 k
  have g1 := Qcd.list.go x.2.1 (markL mkInt x.1 k).2
  have g2 := Qce.list.go x.2.2 (markL mkSpc x.2.1 (markL mkInt x.1 k).2).2
  have hs : hdOf mkHou x k = bif (same x.1 (markL mkInt x.1 k).1 && (same x.2.1 (markL mkSpc x.2.1 (markL mkInt x.1 k).2).1 && (same x.2.2 (markL mkBat x.2.2 (markL mkSpc x.2.1 (markL mkInt x.1 k).2).2).1))) then (markL mkBat x.2.2 (markL mkSpc x.2.1 (markL mkInt x.1 k).2).2).2 else -1 := by
    unfold hdOf
    rw [<- Qgu x]
    show (bif (same x.1 _ && (same x.2.1 _ && (same x.2.2 _ && true))) then _ else _) = _
    rw [Bool.and_true]; rfl
  rw [hs]
  rw [cl_eq (show mkPre (szL (fun _ => 1)) x.1 k = true from Qab.2 ⟨by omega, by omega⟩)]
  rcases Qa5.list.hd (x := x.1) (k := k) (by omega) with ⟨q1, q2, q3⟩ | ⟨q1, q2, q3⟩
  · rw [q2, q3]; rfl
  · have e : hdOf (markL mkInt) x.1 k = (markL mkInt x.1 k).2 := by rw [q2, g0]
    rw [q3, e, decide_eq_false (show ¬ (markL mkInt x.1 k).2 < 0 by omega)]
    try simp only [cond_false]
    rw [cl_eq (show mkPre (szL szS) x.2.1 (markL mkInt x.1 k).2 = true from Qab.2 ⟨by omega, by omega⟩)]
    rcases Qcd.list.hd (x := x.2.1) (k := (markL mkInt x.1 k).2) (by omega) with ⟨q1, q2, q3⟩ | ⟨q1, q2, q3⟩
    · rw [q2, q3]; rfl
    · have e : hdOf (markL mkSpc) x.2.1 (markL mkInt x.1 k).2 = (markL mkSpc x.2.1 (markL mkInt x.1 k).2).2 := by rw [q2, g1]
      rw [q3, e, decide_eq_false (show ¬ (markL mkSpc x.2.1 (markL mkInt x.1 k).2).2 < 0 by omega)]
      try simp only [cond_false]
      rw [cl_eq (show mkPre (szL szB) x.2.2 (markL mkSpc x.2.1 (markL mkInt x.1 k).2).2 = true from Qab.2 ⟨by omega, by omega⟩)]
      rcases Qce.list.hd (x := x.2.2) (k := (markL mkSpc x.2.1 (markL mkInt x.1 k).2).2) (by omega) with ⟨q1, q2, q3⟩ | ⟨q1, q2, q3⟩
      · rw [q2, q3]; rfl
      · have e : hdOf (markL mkBat) x.2.2 (markL mkSpc x.2.1 (markL mkInt x.1 k).2).2 = (markL mkBat x.2.2 (markL mkSpc x.2.1 (markL mkInt x.1 k).2).2).2 := by rw [q2, g2]
        rw [q3, e, decide_eq_false (show ¬ (markL mkBat x.2.2 (markL mkSpc x.2.1 (markL mkInt x.1 k).2).2).2 < 0 by omega)]
        try simp only [cond_false]
        rfl)⟩
end Go.Proofs.Ytijolcgmciclhaa

set_option linter.unusedVariables false
set_option linter.unusedSimpArgs false
namespace Go.Proofs.Ytijolcgmciclhaa
open Go.Vm
theorem Qco {α β : Type} {v : α} {k : α -> β} {r : β} (h : ∀ t, t = v -> k t = r) : lt v k = r := h v rfl
theorem s_ar : C_ar (fun x => smA x.1.1.2.2.2.2.2.2) (fun x => (same x.1 x.2.1, ())) := S_ar s_aq fun x hx => ⟨0, (ev_ar 0 x.1 x.2.1).trans (by
  obtain ⟨a, b, u⟩ := x
  change MAud at a
  change MAud at b
  have hx : decide (List.length a.1.2.2.2.2.2.2 <= 4294967296) = true := hx
  obtain ⟨a1, a2⟩ := a
  obtain ⟨b1, b2⟩ := b
  have hx : decide (List.length a1.2.2.2.2.2.2 <= 4294967296) = true := hx
  dsimp only
  rw [cl_eq hx, show same (a1, a2) (b1, b2) = (same a1 b1 && same a2 b2) from (Qah _ _ _ _).symm, Qan]
  have := Qay (s := same a1 b1) (Qay (s := same a2 b2) (t := true) rfl)
  rw [Bool.and_true] at this
  exact this)⟩
theorem s_as : C_as (fun x => decide (List.length x.1 = 0)) (fun x => (same x.1 x.2.1, ())) := S_as s_ar fun x hx => ⟨1, (ev_as _ x.1 x.2.1).trans (p_eqS fun hl => by
  have hx : List.length x.1 = 0 := of_decide_eq_true hx
  have e1 : x.1 = [] := List.eq_nil_of_length_eq_zero hx
  have e2 : x.2.1 = [] := List.eq_nil_of_length_eq_zero (by rw [<- hl]; exact hx)
  rw [rd0_as, e1, e2]
  exact congrArg (fun b => some (b, ())) (Qcl _).symm)⟩
theorem s_at : C_at (fun x => smSes x.1) (fun x => (same x.1 x.2.1, ())) := S_at s_aq fun x hx => ⟨0, (ev_at 0 x.1 x.2.1).trans (by
  obtain ⟨a, b, u⟩ := x
  change MSes at a
  change MSes at b
  have hx : decide (List.length a.2.1.2.2.2.2.2.2 <= 4294967296) = true := hx
  obtain ⟨a1, a2, a3, a4⟩ := a
  obtain ⟨b1, b2, b3, b4⟩ := b
  have hx : decide (List.length a2.2.2.2.2.2.2 <= 4294967296) = true := hx
  dsimp only
  rw [cl_eq hx, show same (a1, a2, a3, a4) (b1, b2, b3, b4) = (same a1 b1 && (same a2 b2 && (same a3 b3 && same a4 b4))) by rw [Qah, Qah, Qah], Qan, Qan, <- Qed]
  have := Qay (s := same a1 b1) (Qay (s := same a2 b2) (Qay (s := same a3 b3) (Qay (s := same a4 b4) (t := true) rfl)))
  rw [Bool.and_true] at this
  exact this)⟩
theorem s_au : C_au (fun x => decide (List.length x.1 <= 4294967296) && List.all x.1 smSes) (fun x => (same x.1 x.2.1, ())) := S_au s_at fun x hx => ⟨List.length x.1 + 1, (ev_au _ x.1 x.2.1).trans (p_eqS fun hl => by
  obtain ⟨h1, h2⟩ := Bool.and_eq_true_iff.1 hx
  have h1 : List.length x.1 <= 4294967296 := of_decide_eq_true h1
  have h2 := List.all_eq_true.1 h2
  refine Qb7 (α := MSes) x.1 x.2.1 hl (fun k i => r_au (fun x => (same x.1 x.2.1, ())) (fun x => smSes x.1) (x.1, x.2.1, ()) k pt1 (h0_au x.1 x.2.1 (i : Int))) (fun k => ?_) (fun k i y z r r' hd hd' hi hi' => ?_)
  · rw [rd0_au, Qaj (Nat.le_refl _)]; rfl
  · have h3 : smSes y = true := h2 y (Qet hd)
    rw [rd0_au, Qas hi, Qas hi', Qak hi, Qap (by omega), Qaf hd, Qaf hd', cl_eq h3]
    show (bif (bif same y z then false else true) then _ else _) = _
    cases same y z <;> rfl)⟩
theorem Qi9 {s : MSto} (h : stoSm s = true) : houSm s.1 = true /\ decide (List.length s.2.1 <= 4294967296) = true /\ decide (List.length s.2.2.1 = 0) = true /\ (decide (List.length s.2.2.2 <= 4294967296) && List.all s.2.2.2 smSes) = true := by
  unfold stoSm at h
  rw [Bool.and_eq_true, Bool.and_eq_true, Bool.and_eq_true] at h
  exact h
theorem s_av : C_av (fun x => stoSm x.1) (fun x => (same x.1 x.2.1, ())) := S_av s_ap s_ab s_as s_au fun x hx => ⟨0, (ev_av 0 x.1 x.2.1).trans (by
  obtain ⟨a, b, u⟩ := x
  change MSto at a
  change MSto at b
  obtain ⟨h1, h2, h3, h4⟩ := Qi9 hx
  dsimp only at h1 h2 h3 h4 ⊢
  rw [cl_eq h1, cl_eq h2, cl_eq h3, cl_eq h4, <- Qgv a b]
  exact Qay (Qay (Qay (Qay rfl))))⟩
theorem s_b5 : C_b5 (fun x => decide (List.length x.1 = 0) && mkPre (szL szAu) x.1 x.2.1) (fun x => ((markL mkAud x.1 x.2.1).2, ((markL mkAud x.1 x.2.1).1, ()))) := S_b5 s_ax fun x hx => ⟨1, (ev_b5 _ x.1 x.2.1).trans (by
  have e1 : x.1 = [] := List.eq_nil_of_length_eq_zero (of_decide_eq_true (Bool.and_eq_true_iff.1 hx).1)
  rw [e1, rd0_b5]
  repeat with_reducible refine Qco fun t e => ?_
  rfl)⟩
theorem s_bh : C_bh (fun x => decide (List.length x.1 = 0) && mkPre (szL szAu) x.1 x.2.1) (fun x => (hdOf (markL mkAud) x.1 x.2.1, ())) := S_bh s_b9 fun x hx => ⟨1, (ev_bh _ x.1 x.2.1).trans (by
  have e1 : x.1 = [] := List.eq_nil_of_length_eq_zero (of_decide_eq_true (Bool.and_eq_true_iff.1 hx).1)
  rw [e1, rd0_bh]
  repeat with_reducible refine Qco fun t e => ?_
  have e2 : hdOf (markL mkAud) [] x.2.1 = x.2.1 := by unfold hdOf markL; rw [Qcl]; rfl
  rw [e2]
  rfl)⟩
theorem s_b6 : C_b6 (fun x => mkPre (szL szSe) x.1 x.2.1) (fun x => ((markL mkSes x.1 x.2.1).2, ((markL mkSes x.1 x.2.1).1, ()))) := S_b6 s_ax fun x hx => ⟨List.length x.1 + 1, (ev_b6 _ x.1 x.2.1).trans (by
  obtain ⟨h1, h2⟩ := Qab.1 hx
  have hl : List.length x.1 <= szL szSe x.1 := Qax Qiw x.1
  refine Qbq (α := MSes) (mk := mkSes) (sz := szSe) Qcf.go x.1 4294967296 (fun c out => some (c, (out, ()))) (fun k i c out => r_b6 (fun x => ((markL mkAsk x.1 x.2.1).2, ((markL mkAsk x.1 x.2.1).1, ()))) (fun x => mkPre (szL (fun _ => 6)) x.1 x.2.1) (x.1, x.2.1, ()) k pt0 (h0_b6 x.1 x.2.1 c (i : Int) out)) (fun k c out ho => ?_) (fun k i y r c out hd hi ho h0 hB => ?_) x.2.1 h1 h2
  · rw [rd0_b6]
    repeat with_reducible refine Qco fun t e => ?_
    rw [Qaj (show out.length <= List.length x.1 by omega)]; rfl
  · have hi' : i < out.length := by omega
    have hB : c + ((10 + szL (fun _ => 6) y.2.1.2.2.2.2.2.2 : Nat) : Int) <= 4294967296 := hB
    have hg := Qa3.list.go y.2.1.2.2.2.2.2.2 (c + 1 + 1 + 1 + 1 + 1 + 1 + 1 + 1)
    rw [rd0_b6]
    have hr : ∀ y : MSes, rdL (e := S_SesSes) (out.set i y) (i : Int) = y := fun y => Qc3 hi'
    have h0i : decide ((0 : Int) <= (i : Int)) = true := decide_eq_true (by omega)
    have h3 : (bif (decide ((3 : Int) = (0 : Int))) then false else true) = true := rfl
    have hp : mkPre (szL (fun _ => 6)) y.2.1.2.2.2.2.2.2 (c + 1 + 1 + 1 + 1 + 1 + 1 + 1 + 1) = true := Qab.2 ⟨by omega, by omega⟩
    have hy := Qaf (S := S_SesSes) hd
    have e1 : w64 (c + 1) = c + 1 := Qac (by omega) (by omega)
    have e2 : w64 (c + 1 + 1) = c + 1 + 1 := Qac (by omega) (by omega)
    have e3 : w64 (c + 1 + 1 + 1) = c + 1 + 1 + 1 := Qac (by omega) (by omega)
    have e4 : w64 (c + 1 + 1 + 1 + 1) = c + 1 + 1 + 1 + 1 := Qac (by omega) (by omega)
    have e5 : w64 (c + 1 + 1 + 1 + 1 + 1) = c + 1 + 1 + 1 + 1 + 1 := Qac (by omega) (by omega)
    have e6 : w64 (c + 1 + 1 + 1 + 1 + 1 + 1) = c + 1 + 1 + 1 + 1 + 1 + 1 := Qac (by omega) (by omega)
    have e7 : w64 (c + 1 + 1 + 1 + 1 + 1 + 1 + 1) = c + 1 + 1 + 1 + 1 + 1 + 1 + 1 := Qac (by omega) (by omega)
    have e8 : w64 (c + 1 + 1 + 1 + 1 + 1 + 1 + 1 + 1) = c + 1 + 1 + 1 + 1 + 1 + 1 + 1 + 1 := Qac (by omega) (by omega)
    have f1 : w64 ((markL mkAsk y.2.1.2.2.2.2.2.2 (c + 1 + 1 + 1 + 1 + 1 + 1 + 1 + 1)).2 + 1) = (markL mkAsk y.2.1.2.2.2.2.2.2 (c + 1 + 1 + 1 + 1 + 1 + 1 + 1 + 1)).2 + 1 := Qac (by omega) (by omega)
    have f2 : w64 ((markL mkAsk y.2.1.2.2.2.2.2.2 (c + 1 + 1 + 1 + 1 + 1 + 1 + 1 + 1)).2 + 1 + 1) = (markL mkAsk y.2.1.2.2.2.2.2.2 (c + 1 + 1 + 1 + 1 + 1 + 1 + 1 + 1)).2 + 1 + 1 := Qac (by omega) (by omega)
    repeat
      with_reducible refine Qco fun t e => ?_
      try simp only [hy, hr, e1, e2, e3, e4, e5, e6, e7, e8, f1, f2, List.set_set, Int.toNat_natCast] at e
      subst t
    simp only [List.length_set, h3, h0i, Qak hi', hp, cond_true, Qap (show i <= 4294967296 by omega), f1, f2]
    try simp only [Int.toNat_natCast, List.set_set]
    rfl)⟩
theorem s_bi : C_bi (fun x => mkPre (szL szSe) x.1 x.2.1) (fun x => (hdOf (markL mkSes) x.1 x.2.1, ())) := S_bi s_b9 fun x hx => ⟨List.length x.1 + 1, (ev_bi _ x.1 x.2.1).trans (by
  obtain ⟨h1, h2⟩ := Qab.1 hx
  have hl : List.length x.1 <= szL szSe x.1 := Qax Qiw x.1
  refine Qbr (α := MSes) (mk := mkSes) (sz := szSe) Qcf x.1 4294967296 (fun k i c => r_bi (fun x => (hdOf (markL mkAsk) x.1 x.2.1, ())) (fun x => mkPre (szL (fun _ => 6)) x.1 x.2.1) (x.1, x.2.1, ()) k pt0 (h0_bi x.1 x.2.1 c (i : Int))) (fun k c => ?_) (fun k i y r c hd hi h0 hB => ?_) x.2.1 h1 h2
  · rw [rd0_bi]
    repeat with_reducible refine Qco fun t e => ?_
    rw [Qaj (Nat.le_refl _)]; rfl
  · have hB : c + ((10 + szL (fun _ => 6) y.2.1.2.2.2.2.2.2 : Nat) : Int) <= 4294967296 := hB
    have hp : mkPre (szL (fun _ => 6)) y.2.1.2.2.2.2.2.2 (c + 1 + 1 + 1 + 1 + 1 + 1 + 1 + 1) = true := Qab.2 ⟨by omega, by omega⟩
    have h0i : decide ((0 : Int) <= (i : Int)) = true := decide_eq_true (by omega)
    have h3 : (bif (decide ((3 : Int) = (0 : Int))) then false else true) = true := rfl
    have hy := Qaf (S := S_SesSes) hd
    have hg := Qa3.list.go y.2.1.2.2.2.2.2.2 (c + 1 + 1 + 1 + 1 + 1 + 1 + 1 + 1)
    have e1 : w64 (c + 1) = c + 1 := Qac (by omega) (by omega)
    have e2 : w64 (c + 1 + 1) = c + 1 + 1 := Qac (by omega) (by omega)
    have e3 : w64 (c + 1 + 1 + 1) = c + 1 + 1 + 1 := Qac (by omega) (by omega)
    have e4 : w64 (c + 1 + 1 + 1 + 1) = c + 1 + 1 + 1 + 1 := Qac (by omega) (by omega)
    have e5 : w64 (c + 1 + 1 + 1 + 1 + 1) = c + 1 + 1 + 1 + 1 + 1 := Qac (by omega) (by omega)
    have e6 : w64 (c + 1 + 1 + 1 + 1 + 1 + 1) = c + 1 + 1 + 1 + 1 + 1 + 1 := Qac (by omega) (by omega)
    have e7 : w64 (c + 1 + 1 + 1 + 1 + 1 + 1 + 1) = c + 1 + 1 + 1 + 1 + 1 + 1 + 1 := Qac (by omega) (by omega)
    have e8 : w64 (c + 1 + 1 + 1 + 1 + 1 + 1 + 1 + 1) = c + 1 + 1 + 1 + 1 + 1 + 1 + 1 + 1 := Qac (by omega) (by omega)
    have f1 : w64 ((markL mkAsk y.2.1.2.2.2.2.2.2 (c + 1 + 1 + 1 + 1 + 1 + 1 + 1 + 1)).2 + 1) = (markL mkAsk y.2.1.2.2.2.2.2.2 (c + 1 + 1 + 1 + 1 + 1 + 1 + 1 + 1)).2 + 1 := Qac (by omega) (by omega)
    have f2 : w64 ((markL mkAsk y.2.1.2.2.2.2.2.2 (c + 1 + 1 + 1 + 1 + 1 + 1 + 1 + 1)).2 + 1 + 1) = (markL mkAsk y.2.1.2.2.2.2.2.2 (c + 1 + 1 + 1 + 1 + 1 + 1 + 1 + 1)).2 + 1 + 1 := Qac (by omega) (by omega)
    rw [rd0_bi]
    repeat
      with_reducible refine Qco fun t e => ?_
      try simp only [hy, e1, e2, e3, e4, e5, e6, e7, e8] at e
      subst t
    simp only [h3, h0i, Qak hi, cond_true, Qap (show i <= 4294967296 by omega), e8]
    rw [cl_eq hp]
    unfold mkSes
    simp only [Qbt, Qan, Qed]
    generalize (y.1 == _) = b1
    generalize same y.2.1.1 _ = b2
    generalize same y.2.1.2.1 _ = b3
    generalize same y.2.1.2.2.1 _ = b4
    generalize same y.2.1.2.2.2.1 _ = b5
    generalize same y.2.1.2.2.2.2.1 _ = b6
    generalize same y.2.1.2.2.2.2.2.1.1 _ = b7
    generalize same y.2.1.2.2.2.2.2.1.2 _ = b8
    rcases Qa3.list.hd (x := y.2.1.2.2.2.2.2.2) (k := c + 1 + 1 + 1 + 1 + 1 + 1 + 1 + 1) (by omega) with ⟨g1, g2, g3⟩ | ⟨g1, g2, g3⟩
    · rw [g2, g3]
      cases b1 <;> try rfl
      cases b2 <;> try rfl
      cases b3 <;> try rfl
      cases b4 <;> try rfl
      cases b5 <;> try rfl
      cases b6 <;> try rfl
      cases b7 <;> try rfl
      cases b8 <;> rfl
    · have e : hdOf (markL mkAsk) y.2.1.2.2.2.2.2.2 (c + 1 + 1 + 1 + 1 + 1 + 1 + 1 + 1) = (markL mkAsk y.2.1.2.2.2.2.2.2 (c + 1 + 1 + 1 + 1 + 1 + 1 + 1 + 1)).2 := by rw [g2, hg]
      rw [g3, e, decide_eq_false (show ¬ (markL mkAsk y.2.1.2.2.2.2.2.2 (c + 1 + 1 + 1 + 1 + 1 + 1 + 1 + 1)).2 < 0 by omega), f1, f2]
      generalize same y.2.2.1 _ = b9
      generalize same y.2.2.2 _ = b10
      cases b1 <;> try rfl
      cases b2 <;> try rfl
      cases b3 <;> try rfl
      cases b4 <;> try rfl
      cases b5 <;> try rfl
      cases b6 <;> try rfl
      cases b7 <;> try rfl
      cases b8 <;> try rfl
      cases b9 <;> try rfl
      cases b10 <;> rfl)⟩
theorem s_b7 : C_b7 (fun x => decide (List.length x.1.2.2.1 = 0) && mkPre szSt x.1 x.2.1) (fun x => ((mkSto x.1 x.2.1).2, ((mkSto x.1 x.2.1).1, ()))) := S_b7 s_b4 s_aw s_b5 s_b6 fun x hx => ⟨0, (ev_b7 0 x.1 x.2.1).trans (by
  obtain ⟨s, k, u⟩ := x
  change MSto at s
  change Int at k
  obtain ⟨ha, hb⟩ := Bool.and_eq_true_iff.1 hx
  have ha : decide (List.length s.2.2.1 = 0) = true := ha
  obtain ⟨h1, h2⟩ := Qab.1 hb
  have h1 : 0 <= k := h1
  have h2 : k + ((szH s.1 + szL (fun _ => 1) s.2.1 + szL szAu s.2.2.1 + szL szSe s.2.2.2 : Nat) : Int) <= 4294967296 := h2
  have g0 := Qd3.go s.1 k
  have g1 := Qa5.list.go s.2.1 (mkHou s.1 k).2
  have g2 := Qd4.list.go s.2.2.1 (markL mkInt s.2.1 (mkHou s.1 k).2).2
  have g3 := Qcf.list.go s.2.2.2 (markL mkAud s.2.2.1 (markL mkInt s.2.1 (mkHou s.1 k).2).2).2
  have p0 : mkPre szH s.1 k = true := Qab.2 ⟨by omega, by omega⟩
  have p1 : mkPre (szL (fun _ => 1)) s.2.1 (mkHou s.1 k).2 = true := Qab.2 ⟨by omega, by omega⟩
  have p2 : (decide (List.length s.2.2.1 = 0) && mkPre (szL szAu) s.2.2.1 (markL mkInt s.2.1 (mkHou s.1 k).2).2) = true := Bool.and_eq_true_iff.2 ⟨ha, Qab.2 ⟨by omega, by omega⟩⟩
  have p3 : mkPre (szL szSe) s.2.2.2 (markL mkAud s.2.2.1 (markL mkInt s.2.1 (mkHou s.1 k).2).2).2 = true := Qab.2 ⟨by omega, by omega⟩
  dsimp only
  rw [cl_eq p0]
  dsimp only
  rw [cl_eq p1]
  dsimp only
  rw [cl_eq p2]
  dsimp only
  rw [cl_eq p3]
  rfl)⟩
theorem s_bj : C_bj (fun x => decide (List.length x.1.2.2.1 = 0) && mkPre szSt x.1 x.2.1) (fun x => (hdOf mkSto x.1 x.2.1, ())) := S_bj s_bg s_b8 s_bh s_bi fun x hx => ⟨0, (ev_bj 0 x.1 x.2.1).trans (by
  obtain ⟨s, k, u⟩ := x
  change MSto at s
  change Int at k
  obtain ⟨ha, hb⟩ := Bool.and_eq_true_iff.1 hx
  have ha : decide (List.length s.2.2.1 = 0) = true := ha
  obtain ⟨h1, h2⟩ := Qab.1 hb
  have h1 : 0 <= k := h1
  have h2 : k + ((szH s.1 + szL (fun _ => 1) s.2.1 + szL szAu s.2.2.1 + szL szSe s.2.2.2 : Nat) : Int) <= 4294967296 := h2
  have g0 := Qd3.go s.1 k
  have g1 := Qa5.list.go s.2.1 (mkHou s.1 k).2
  have g2 := Qd4.list.go s.2.2.1 (markL mkInt s.2.1 (mkHou s.1 k).2).2
  have g3 := Qcf.list.go s.2.2.2 (markL mkAud s.2.2.1 (markL mkInt s.2.1 (mkHou s.1 k).2).2).2
  have p0 : mkPre szH s.1 k = true := Qab.2 ⟨by omega, by omega⟩
  have p1 : mkPre (szL (fun _ => 1)) s.2.1 (mkHou s.1 k).2 = true := Qab.2 ⟨by omega, by omega⟩
  have p2 : (decide (List.length s.2.2.1 = 0) && mkPre (szL szAu) s.2.2.1 (markL mkInt s.2.1 (mkHou s.1 k).2).2) = true := Bool.and_eq_true_iff.2 ⟨ha, Qab.2 ⟨by omega, by omega⟩⟩
  have p3 : mkPre (szL szSe) s.2.2.2 (markL mkAud s.2.2.1 (markL mkInt s.2.1 (mkHou s.1 k).2).2).2 = true := Qab.2 ⟨by omega, by omega⟩
  dsimp only
  have hs : hdOf mkSto s k = bif (same s.1 (mkHou s.1 k).1 && (same s.2.1 (markL mkInt s.2.1 (mkHou s.1 k).2).1 && (same s.2.2.1 (markL mkAud s.2.2.1 (markL mkInt s.2.1 (mkHou s.1 k).2).2).1 && same s.2.2.2 (markL mkSes s.2.2.2 (markL mkAud s.2.2.1 (markL mkInt s.2.1 (mkHou s.1 k).2).2).2).1))) then (markL mkSes s.2.2.2 (markL mkAud s.2.2.1 (markL mkInt s.2.1 (mkHou s.1 k).2).2).2).2 else -1 := by
    unfold hdOf
    rw [<- Qgv s]
    show (bif (same s.1 _ && (same s.2.1 _ && (same s.2.2.1 _ && (same s.2.2.2 _ && true)))) then _ else _) = _
    rw [Bool.and_true]; rfl
  rw [hs]
  rw [cl_eq p0]
  rcases Qd3.hd (x := s.1) (k := k) (by omega) with ⟨q1, q2, q3⟩ | ⟨q1, q2, q3⟩
  · rw [q2, q3]; rfl
  · have e : hdOf mkHou s.1 k = (mkHou s.1 k).2 := by rw [q2, g0]
    rw [q3, e, decide_eq_false (show ¬ (mkHou s.1 k).2 < 0 by omega)]
    try simp only [cond_false]
    rw [cl_eq p1]
    rcases Qa5.list.hd (x := s.2.1) (k := (mkHou s.1 k).2) (by omega) with ⟨q1, q2, q3⟩ | ⟨q1, q2, q3⟩
    · rw [q2, q3]; rfl
    · have e : hdOf (markL mkInt) s.2.1 (mkHou s.1 k).2 = (markL mkInt s.2.1 (mkHou s.1 k).2).2 := by rw [q2, g1]
      rw [q3, e, decide_eq_false (show ¬ (markL mkInt s.2.1 (mkHou s.1 k).2).2 < 0 by omega)]
      try simp only [cond_false]
      rw [cl_eq p2]
      rcases Qd4.list.hd (x := s.2.2.1) (k := (markL mkInt s.2.1 (mkHou s.1 k).2).2) (by omega) with ⟨q1, q2, q3⟩ | ⟨q1, q2, q3⟩
      · rw [q2, q3]; rfl
      · have e : hdOf (markL mkAud) s.2.2.1 (markL mkInt s.2.1 (mkHou s.1 k).2).2 = (markL mkAud s.2.2.1 (markL mkInt s.2.1 (mkHou s.1 k).2).2).2 := by rw [q2, g2]
        rw [q3, e, decide_eq_false (show ¬ (markL mkAud s.2.2.1 (markL mkInt s.2.1 (mkHou s.1 k).2).2).2 < 0 by omega)]
        try simp only [cond_false]
        rw [cl_eq p3]
        rcases Qcf.list.hd (x := s.2.2.2) (k := (markL mkAud s.2.2.1 (markL mkInt s.2.1 (mkHou s.1 k).2).2).2) (by omega) with ⟨q1, q2, q3⟩ | ⟨q1, q2, q3⟩
        · rw [q2, q3]; rfl
        · have e : hdOf (markL mkSes) s.2.2.2 (markL mkAud s.2.2.1 (markL mkInt s.2.1 (mkHou s.1 k).2).2).2 = (markL mkSes s.2.2.2 (markL mkAud s.2.2.1 (markL mkInt s.2.1 (mkHou s.1 k).2).2).2).2 := by rw [q2, g3]
          rw [q3, e, decide_eq_false (show ¬ (markL mkSes s.2.2.2 (markL mkAud s.2.2.1 (markL mkInt s.2.1 (mkHou s.1 k).2).2).2).2 < 0 by omega)]
          try simp only [cond_false]
          rfl)⟩
theorem s_a9 : C_a9 (fun x => decide (List.length x.1 <= 4294967296)) (fun x => (houNew x.1, ())) := S_a9 s_a7 s_a8 fun x hx => ⟨0, (ev_a9 0 x.1).trans (by
  obtain ⟨l, u⟩ := x
  change List Int at l
  have hx : decide (List.length l <= 4294967296) = true := hx
  dsimp only
  rw [cl_eq hx, cl_eq hx]
  unfold houNew
  cases rolesOk l <;> rfl)⟩
theorem s_aa : C_aa (fun x => decide (List.length x.1 <= 4294967296)) (fun x => (stoNew x.1, ())) := S_aa s_a7 s_a9 fun x hx => ⟨0, (ev_aa 0 x.1).trans (by
  obtain ⟨l, u⟩ := x
  change List Int at l
  have hx : decide (List.length l <= 4294967296) = true := hx
  dsimp only
  rw [cl_eq hx, cl_eq hx]
  unfold stoNew houNew
  cases rolesOk l <;> rfl)⟩
theorem s_a2 : C_a2 (fun x => decide (List.length x.1 <= 4294967296)) (fun x => (houNew x.1, ())) := S_a2 s_a1 fun x hx => by
  obtain ⟨l, u⟩ := x
  change List Int at l
  have hx : List.length l <= 4294967296 := of_decide_eq_true hx
  have hz : fitL ([] : List Int) l = true := Qji (by show 0 + l.length <= _; omega)
  have hloop : ∃ k, r_a2 (fun x => (inq x.1 x.2.1 x.2.2.1, ())) (l, ()) k pt1 (h0_a2 l ((0 : Nat) : Int) [] [] []) = some ((bif l.all (inq · 1 4) then (l, [], []) else hou0), ()) := by
    have := Qld l (fun o => inq o 1 4) ((l, [], []), ()) (hou0, ()) (fun k i => r_a2 (fun x => (inq x.1 x.2.1 x.2.2.1, ())) (l, ()) k pt1 (h0_a2 l (i : Int) [] [] [])) (fun _ => ⟨1, by
      rw [rd0_a2, Qaj (Nat.le_refl _), hz]; rfl⟩) (fun k i y r hd hi => by
      rw [rd0_a2, Qas hi, Qak hi, Qap (by omega), Qaf hd]
      dsimp only
      cases inq y 1 4 <;> rfl)
    obtain ⟨k, hk⟩ := this
    refine ⟨k, hk.trans ?_⟩
    cases l.all (inq · 1 4) <;> rfl
  obtain ⟨k, hk⟩ := hloop
  refine ⟨k, (ev_a2 k l).trans ?_⟩
  dsimp only
  unfold houNew rolesOk
  cases inq (l.length : Int) 1 5
  · rfl
  · exact hk
theorem s_a3 : C_a3 (fun x => decide (List.length x.1 <= 4294967296)) (fun x => (stoNew x.1, ())) := S_a3 s_a2 fun x hx => ⟨0, (ev_a3 0 x.1).trans (by
  obtain ⟨l, u⟩ := x
  change List Int at l
  have hx : decide (List.length l <= 4294967296) = true := hx
  dsimp only
  rw [cl_eq hx]
  unfold stoNew houNew
  cases h : rolesOk l
  · rfl
  · have := (Qef.1 h).1
    show (bif decide ((l.length : Int) = 0) then _ else _) = _
    rw [decide_eq_false (show ¬ (l.length : Int) = 0 by omega)]; rfl)⟩

end Go.Proofs.Ytijolcgmciclhaa

set_option linter.unusedVariables false
set_option linter.unusedSimpArgs false
namespace Go.Proofs.Ytijolcgmciclhaa
open Go.Vm
theorem s_lFnExactStoNew : C_lFnExactStoNew (lawPre _) (fun _ => (true, ())) := S_lFnExactStoNew s_a0 s_a3 s_aa s_av s_ab s_aw s_b7 s_bj fun x hx => ⟨0, (ev_lFnExactStoNew 0 x.1).trans (by
  obtain ⟨l, u⟩ := x
  change List Int at l
  dsimp only
  by_cases h : (1048576 : Int) < (List.length l : Int)
  · rw [decide_eq_true h]; rfl
  · have h3 : decide (List.length l <= 4294967296) = true := decide_eq_true (by omega)
    have hm : mkPre (szL (fun _ => 1)) l 1 = true := Qab.2 ⟨by decide, by rw [Qcm]; omega⟩
    have hr := Qix l
    have hz : decide (List.length (stoNew l).2.2.1 = 0) = true := by rcases Qfa l with ⟨_, e⟩ | ⟨_, e⟩ <;> rw [e] <;> rfl
    obtain ⟨hr1, hr2⟩ := hr
    have p1 : decide ((markL mkInt l 1).2 < 0) = false := Qa5.list.pos (by decide)
    have p2 : decide ((mkSto (stoNew l) 1).2 < 0) = false := Qf6.pos (by decide)
    have p3 := Qf6.pre hr2
    have p4 := Qf6.held (stoNew l) 1
    have hz2 : decide (List.length (mkSto (stoNew l) 1).1.2.2.1 = 0) = true := by
      have e : (mkSto (stoNew l) 1).1.2.2.1.length = (stoNew l).2.2.1.length := Qhw _ _ _
      rw [e]; exact hz
    simp only [decide_eq_false h, cl, h3, hm, hr1, hr2, hz, hz2, p1, p2, p3, p4, Qcl, beq_self_eq_true, Bool.and_self, cond_true, cond_false, decide_eq_true_eq, decide_true])⟩

end Go.Proofs.Ytijolcgmciclhaa
