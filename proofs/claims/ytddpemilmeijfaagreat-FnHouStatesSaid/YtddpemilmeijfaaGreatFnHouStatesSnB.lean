/- The functions that FnHouStates reaches: what each of them answers, part 2. Conditions stand in each contract. -/
import Derived.Test.YtddpemilmeijfaaGreatFnHouStatesSnA
import Derived.Test.YtddpemilmeijfaaGreatFnHouStatesMoA
set_option linter.unusedVariables false
set_option linter.unusedSimpArgs false
namespace Go.Proofs.YtddpemilmeijfaaGreat
open Go.Vm
theorem Qvx {n : Nat} (h : decide ((0 : Int) < (n : Int)) = true) : (bif decide ((0 : Int) <= (1 : Int)) then decide ((1 : Int) <= (n : Int)) else false) = true := by
 have := of_decide_eq_true h
 exact decide_eq_true (show (1 : Int) <= (n : Int) by omega)
theorem Qvf {n : Nat} (h : decide ((0 : Int) < (n : Int)) = true) : (bif decide ((0 : Int) <= (0 : Int)) then decide ((0 : Int) < (n : Int)) else false) = true := h
theorem _root_.List.length_drop_le' {α : Type} (l : List α) (i : Nat) : (l.drop i).length <= l.length := by rw [List.length_drop]; omega
theorem Qhe : ∃ fn : In_c0 -> Out_c0, ∀ x, (fun x : In_c0 => rdB 50 x.1 && batOk x.2.1) x = true -> (∃ k, E_c0 (fun x => (x.1, ())) (fun x => smB x.1) Qaa (fun x => rdB 1 x.1) (fun x => (batMark x.1, ())) (fun x => smB x.1) Qdj (fun x => rdB 40 x.1) k x = some (fn x)) /\ (fun (x : In_c0) (v : Out_c0) => Step 50 x.1 v.2.1 /\ BatDr v.1) x (fn x) := by
 refine Qav (fun k x => E_c0 (fun x => (x.1, ())) (fun x => smB x.1) Qaa (fun x => rdB 1 x.1) (fun x => (batMark x.1, ())) (fun x => smB x.1) Qdj (fun x => rdB 40 x.1) k x) (fun x : In_c0 => rdB 50 x.1 && batOk x.2.1) (fun (x : In_c0) (v : Out_c0) => Step 50 x.1 v.2.1 /\ BatDr v.1) (batNone, (([], 0), ())) fun x hx => ?_
 have key : ∀ (r0 : MRd) (b : MBat), RdOk 50 r0 -> batOk b = true -> Gets (E_c0 (fun x => (x.1, ())) (fun x => smB x.1) Qaa (fun x => rdB 1 x.1) (fun x => (batMark x.1, ())) (fun x => smB x.1) Qdj (fun x => rdB 40 x.1) 0 (r0, b, ())) (fun v => Step 50 r0 v.2.1 /\ BatDr v.1) := by
  intro r0 b h0 hb
  obtain ⟨hT, hS, hD⟩ := Qou hb
  have hsm : smB b = true := Qi6 hb
  have hs := Step.refl r0
  have hS7 : List.length b.2.2.2.2.1 <= 7 := by omega
  have hD4 : List.length b.2.2.2.2.2 <= 4 := by omega
  have hfS : ∀ z, fitL b.2.2.2.2.1 [z] = true := fun z => Qat (by show List.length b.2.2.2.2.1 + 1 <= _; omega)
  have hfD : ∀ z, fitL b.2.2.2.2.2 [z] = true := fun z => Qat (by show List.length b.2.2.2.2.2 + 1 <= _; omega)
  rw [ev_c0 0 r0 b]
  refine Qan hsm ?_
  dsimp only
  repeat' first
   | with_reducible refine Qao (Q := PickQ) Qag h0 rfl (by assumption) (by decide) fun y r' hq hs => ?_
   | with_reducible refine Qao (Q := fun a y => List.length y.2.2.2.2 <= 3 /\ tS y) Qrl h0 rfl (by assumption) (by decide) fun y r' hq hs => ?_
   | with_reducible refine Qan hsm ?_
   | refine Qac (Qcd (by assumption) (by decide) (by exact Int.le_refl _)) ?_
   | refine Qac (hfS _) ?_
   | refine Qac (hfD _) ?_
   | with_reducible refine Qcb ?_
   | with_reducible refine Qab ⟨Step.mono (by assumption) (by decide), ?_⟩
   | exact ⟨hT, hS7, hD4⟩
   | exact ⟨TstsDr.nil, hS7, hD4⟩
   | exact ⟨TstsDr.set hT (by assumption), hS7, hD4⟩
   | exact ⟨hT, Qov hS, hD4⟩
   | exact ⟨hT, hS7, Qov hD⟩
   | exact ⟨hT, Nat.le_trans (List.length_drop_le' _ _) hS7, hD4⟩
   | (refine Qac (Qvx (by assumption)) ?_)
   | (refine Qac (Qvf (by assumption)) ?_)
   | with_reducible refine Qad (fun hc => ?_) fun hc => ?_
 obtain ⟨hx1, hx2⟩ := Bool.and_eq_true_iff.1 hx
 exact ⟨0, key x.1 x.2.1 (Qau.1 hx1) hx2⟩
noncomputable def Qc2 := Classical.choose Qhe
theorem Qpw (x : In_c0) (hx : (fun x : In_c0 => rdB 50 x.1 && batOk x.2.1) x = true) : (fun (x : In_c0) (v : Out_c0) => Step 50 x.1 v.2.1 /\ BatDr v.1) x (Qc2 x) := (Classical.choose_spec Qhe x hx).2
theorem s_c0 : C_c0 (fun x => rdB 50 x.1 && batOk x.2.1) Qc2 := S_c0 s_ar s_a1 s_ai s_bz fun x hx => (Classical.choose_spec Qhe x hx).1
theorem Qpx (r : MRd) (a : MBat × Unit) (h : RdOk 50 r) (ha : (fun a : MBat × Unit => batOk a.1) a = true) : Step 50 r (Qc2 (r, a)).2.1 /\ (fun (a : MBat × Unit) (y : MBat) => BatDr y) a (Qc2 (r, a)).1 := Qpw (r, a) (Bool.and_eq_true_iff.2 ⟨Qau.2 h, ha⟩)
end Go.Proofs.YtddpemilmeijfaaGreat

set_option linter.unusedVariables false
set_option linter.unusedSimpArgs false
namespace Go.Proofs.YtddpemilmeijfaaGreat
open Go.Vm
theorem s_c4 : C_c4 (fun x => houSm x.1) (fun x => (x.1.2.2.map (fun b : MBat => b.2.2.2.1), ())) := S_c4 fun x hx => by
 obtain ⟨h, u⟩ := x
 change MHou at h
 have hx : houSm h = true := hx
 have hl := (Qa1.1 hx).2.2.1
 have := (Qdi (σ := List Int) h.2.2.length (fun k i s => r_c4 (h, ()) k pt0 (h0_c4 h (h.2.2.length : Int) (i : Int) s)) (fun v => v = (h.2.2.map (fun b : MBat => b.2.2.2.1), ())) (fun i s => s = (h.2.2.take i).map (fun b : MBat => b.2.2.2.1)) (fun s hs => ?_) (fun i s hi hs next => ?_) h.2.2.length 0 [] (by omega) rfl).eq
 ·obtain ⟨k, hk⟩ := this
  exact ⟨k, (ev_c4 k h).trans hk⟩
 ·have hs : s = (h.2.2.take h.2.2.length).map (fun b : MBat => b.2.2.2.1) := hs
  rw [List.take_length] at hs; subst hs
  refine ⟨1, ?_⟩
  show Gets (r_c4 (h, ()) (0 + 1) pt0 _) _
  rw [rd0_c4, Qaf (Nat.le_refl _), cond_false]; exact Qab rfl
 ·have hs : s = (h.2.2.take i).map (fun b : MBat => b.2.2.2.1) := hs
  have hd := List.drop_eq_getElem_cons hi
  obtain ⟨k, hk⟩ := next ((h.2.2.take (i + 1)).map (fun b : MBat => b.2.2.2.1)) rfl
  rw [Qih _ hd] at hk
  have hle : (h.2.2.take i).length <= i := List.length_take_le _ _
  refine ⟨k + 1, ?_⟩
  show Gets (r_c4 (h, ()) (k + 1) pt0 (h0_c4 h (h.2.2.length : Int) (i : Int) s)) _
  rw [rd0_c4, Qai hi, Qaj hi, Qak (by omega), Qah hd, cond_true, cond_true, Qat (by rw [hs, List.length_map]; show (h.2.2.take i).length + 1 <= _; omega), hs]
  exact hk
theorem s_c5 : C_c5 (fun x => houSm x.1) (fun x => (x.1.2.2.map (fun b : MBat => b.2.2.2.1), ())) := S_c5 fun x hx => by
 obtain ⟨h, u⟩ := x
 change MHou at h
 have hx : houSm h = true := hx
 have hl := (Qa1.1 hx).2.2.1
 have := (Qdi (σ := List Int) h.2.2.length (fun k i s => r_c5 (h, ()) k pt0 (h0_c5 h (i : Int) s)) (fun v => v = (h.2.2.map (fun b : MBat => b.2.2.2.1), ())) (fun i s => s = (h.2.2.take i).map (fun b : MBat => b.2.2.2.1)) (fun s hs => ?_) (fun i s hi hs next => ?_) h.2.2.length 0 [] (by omega) rfl).eq
 ·obtain ⟨k, hk⟩ := this
  exact ⟨k, (ev_c5 k h).trans hk⟩
 ·have hs : s = (h.2.2.take h.2.2.length).map (fun b : MBat => b.2.2.2.1) := hs
  rw [List.take_length] at hs; subst hs
  refine ⟨1, ?_⟩
  show Gets (r_c5 (h, ()) (0 + 1) pt0 _) _
  rw [rd0_c5, Qaf (Nat.le_refl _), cond_false]; exact Qab rfl
 ·have hs : s = (h.2.2.take i).map (fun b : MBat => b.2.2.2.1) := hs
  have hd := List.drop_eq_getElem_cons hi
  obtain ⟨k, hk⟩ := next ((h.2.2.take (i + 1)).map (fun b : MBat => b.2.2.2.1)) rfl
  rw [Qih _ hd] at hk
  have hle : (h.2.2.take i).length <= i := List.length_take_le _ _
  refine ⟨k + 1, ?_⟩
  show Gets (r_c5 (h, ()) (k + 1) pt0 (h0_c5 h (i : Int) s)) _
  rw [rd0_c5, Qai hi, Qaj hi, Qak (by omega), Qah hd, cond_true, cond_true, Qat (by rw [hs, List.length_map]; show (h.2.2.take i).length + 1 <= _; omega), hs]
  exact hk
theorem Qvy {l : List MSpc} (h : SpQ l) : smS l = true := Qb2.2 ⟨by have := h.1; omega, fun s hs => by have := h.2 s hs; omega⟩
theorem Qpy {h : MHou} {l : List Int} (hk : houSm h = true) (hl : l.length <= h.1.length) : houSm (l, h.2) = true := by
 obtain ⟨h1, h2, h3, h4⟩ := Qa1.1 hk
 exact Qa1.2 ⟨Nat.le_trans hl h1, h2, h3, h4⟩
theorem Qpz {h : MHou} {l : List MSpc} (hk : houSm h = true) (hl : smS l = true) : houSm (h.1, l, h.2.2) = true := by
 obtain ⟨h1, h2, h3, h4⟩ := Qa1.1 hk
 exact Qa1.2 ⟨h1, hl, h3, h4⟩
theorem Qtj {h : MHou} {b : MBat} (hk : houOk h = true) (hb : smB b = true) : houSm (h.1, h.2.1, List.append h.2.2 [b]) = true := by
 obtain ⟨h1, h2, h3, h4⟩ := Qa1.1 (Qd5 hk)
 have hl := (Qaz.1 hk).2.2.1
 refine Qa1.2 ⟨h1, h2, ?_, fun x hx => ?_⟩
 ·show (h.2.2 ++ [b]).length <= _
  rw [List.length_append]; show h.2.2.length + 1 <= _; omega
 ·have hx : x ∈ h.2.2 ++ [b] := hx
  rcases List.mem_append.1 hx with hx | hx
  ·exact h4 x hx
  ·rw [List.mem_singleton.1 hx]; exact hb
theorem Qtk {h : MHou} {i : Nat} {b : MBat} (hk : houSm h = true) (hb : smB b = true) : houSm (h.1, h.2.1, h.2.2.set i b) = true := by
 obtain ⟨h1, h2, h3, h4⟩ := Qa1.1 hk
 refine Qa1.2 ⟨h1, h2, by show (h.2.2.set i b).length <= _; rw [List.length_set]; exact h3, fun x hx => ?_⟩
 rcases List.mem_or_eq_of_mem_set hx with hx | hx
 ·exact h4 x hx
 ·rw [hx]; exact hb
theorem Qe1 : ∃ fn : In_c1 -> Out_c1, ∀ x, (fun x : In_c1 => rdB 600 x.1 && houOk x.2.1) x = true -> (∃ k, E_c1 (fun x => (x.1, ())) (fun x => houSm x.1) Qaa (fun x => rdB 1 x.1) Qc1 (fun x => rdB 500 x.1) Qa0 (fun x => rdB 76 x.1) (fun x => (batNew x.1 x.2.1 x.2.2.1, ())) (fun x => smA x.2.1) Qc2 (fun x => rdB 50 x.1 && batOk x.2.1) k x = some (fn x)) /\ (fun (x : In_c1) (v : Out_c1) => Step 600 x.1 v.2.1 /\ houSm v.1 = true) x (fn x) := by
 refine Qav (fun k x => E_c1 (fun x => (x.1, ())) (fun x => houSm x.1) Qaa (fun x => rdB 1 x.1) Qc1 (fun x => rdB 500 x.1) Qa0 (fun x => rdB 76 x.1) (fun x => (batNew x.1 x.2.1 x.2.2.1, ())) (fun x => smA x.2.1) Qc2 (fun x => rdB 50 x.1 && batOk x.2.1) k x) (fun x : In_c1 => rdB 600 x.1 && houOk x.2.1) (fun (x : In_c1) (v : Out_c1) => Step 600 x.1 v.2.1 /\ houSm v.1 = true) (([], [], []), (([], 0), ())) fun x hx => ?_
 have key : ∀ (r0 : MRd) (h : MHou), RdOk 600 r0 -> houOk h = true -> Gets (E_c1 (fun x => (x.1, ())) (fun x => houSm x.1) Qaa (fun x => rdB 1 x.1) Qc1 (fun x => rdB 500 x.1) Qa0 (fun x => rdB 76 x.1) (fun x => (batNew x.1 x.2.1 x.2.2.1, ())) (fun x => smA x.2.1) Qc2 (fun x => rdB 50 x.1 && batOk x.2.1) 0 (r0, h, ())) (fun v => Step 600 r0 v.2.1 /\ houSm v.1 = true) := by
  intro r0 h h0 hh
  have hsm : houSm h = true := Qd5 hh
  have hs := Step.refl r0
  have hro := (Qdz.1 (Qaz.1 hh).1).1
  have hbl := (Qaz.1 hh).2.2.1
  rw [ev_c1 0 r0 h]
  refine Qan hsm ?_
  dsimp only
  refine Qao (Q := PickQ) Qag h0 rfl hs (by decide) fun y r' hq hs => ?_
  refine Qad (fun _ => ?_) fun _ => ?_
  ·refine Qao (Q := PickQ) Qag h0 rfl hs (by decide) fun z r' hz hs => ?_
   refine Qao (Q := PickQ) Qag h0 rfl hs (by decide) fun o r' _ hs => ?_
   refine Qac (Qcd hz (by omega) (Int.le_refl _)) ?_
   exact Qab ⟨hs.mono (by decide), Qpy hsm (by rw [List.length_set]; exact Nat.le_refl _)⟩
  refine Qad (fun _ => ?_) fun _ => ?_
  ·refine Qao (Q := fun a y => SpQ y) Qpp h0 rfl hs (by decide) fun z r' hz hs => ?_
   exact Qab ⟨hs.mono (by decide), Qpz hsm (Qvy hz)⟩
  refine Qad (fun _ => ?_) fun _ => ?_
  ·refine Qao (Q := PickQ) Qag h0 rfl hs (by decide) fun z r' hz hs => ?_
   refine Qao (Q := fun a y => 1 <= List.length y /\ List.length y <= 5) Qd0 h0 rfl hs (by decide) fun t r' ht hs => ?_
   refine Qan (show smA t = true from Qlg ht.2) ?_
   refine Qac (Qat (by show List.length h.2.2 + 1 <= _; omega)) ?_
   exact Qab ⟨hs.mono (by decide), Qtj hh (Qs4 _ _ _ ht.2).sm⟩
  refine Qad (fun hc => ?_) fun _ => Qab ⟨hs.mono (by decide), hsm⟩
  have hc : (0 : Int) < (List.length h.2.2 : Int) := of_decide_eq_true hc
  refine Qao (Q := PickQ) Qag h0 rfl hs (by decide) fun z r' hz hs => ?_
  have hz0 : 0 <= z := hz.1
  have hz1 : z < (List.length h.2.2 : Int) := hz.2 (show (1 : Int) <= (List.length h.2.2 : Int) by omega)
  have hi := Qcd hz (by omega) (Int.le_refl _)
  have hb := Qqb hh hz0 hz1
  refine Qac hi ?_
  refine Qd6 (pA := fun a : MBat × Unit => batOk a.1) (Q := fun a y => BatDr y) Qpx h0 rfl hb hs (by decide) fun b r' hb hs => ?_
  refine Qac hi ?_
  exact Qab ⟨hs.mono (by decide), Qtk hsm (BatDr.sm hb)⟩
 obtain ⟨hx1, hx2⟩ := Bool.and_eq_true_iff.1 hx
 exact ⟨0, key x.1 x.2.1 (Qau.1 hx1) hx2⟩
noncomputable def Qbd := Classical.choose Qe1
theorem Qmf (x : In_c1) (hx : (fun x : In_c1 => rdB 600 x.1 && houOk x.2.1) x = true) : (fun (x : In_c1) (v : Out_c1) => Step 600 x.1 v.2.1 /\ houSm v.1 = true) x (Qbd x) := (Classical.choose_spec Qe1 x hx).2
theorem s_c1 : C_c1 (fun x => rdB 600 x.1 && houOk x.2.1) Qbd := S_c1 s_as s_a1 s_by s_a8 s_b1 s_c0 fun x hx => (Classical.choose_spec Qe1 x hx).1
theorem Qhi (r : MRd) (a : MHou × Unit) (h : RdOk 600 r) (ha : (fun a : MHou × Unit => houOk a.1) a = true) : Step 600 r (Qbd (r, a)).2.1 /\ (fun (a : MHou × Unit) (y : MHou) => houSm y = true) a (Qbd (r, a)).1 := Qmf (r, a) (Bool.and_eq_true_iff.2 ⟨Qau.2 h, ha⟩)
theorem Qgk : ∃ fn : In_dv -> Out_dv, ∀ x, (fun x : In_dv => bytesB x.1) x = true -> (∃ k, E_dv Qcy (fun x => bytesB x.1) Qbx (fun x => rdB 4000 x.1) Qcp (fun x => rdB 180 x.1 && houOk x.2.1) Qaa (fun x => rdB 1 x.1) Qbd (fun x => rdB 600 x.1 && houOk x.2.1) k x = some (fn x)) /\ (fun (x : In_dv) (v : Out_dv) => houSm v.1 = true /\ smA v.2.1.2.2.2.2.2.2 = true) x (fn x) := by
 refine Qav (fun k x => E_dv Qcy (fun x => bytesB x.1) Qbx (fun x => rdB 4000 x.1) Qcp (fun x => rdB 180 x.1 && houOk x.2.1) Qaa (fun x => rdB 1 x.1) Qbd (fun x => rdB 600 x.1 && houOk x.2.1) k x) (fun x : In_dv => bytesB x.1) (fun (x : In_dv) (v : Out_dv) => houSm v.1 = true /\ smA v.2.1.2.2.2.2.2.2 = true) (([], [], []), (0, 0, 0, 0, 0, (0, 0), []), ()) fun x hx => ?_
 have key : ∀ xs : List Int, bytesB xs = true -> Gets (E_dv Qcy (fun x => bytesB x.1) Qbx (fun x => rdB 4000 x.1) Qcp (fun x => rdB 180 x.1 && houOk x.2.1) Qaa (fun x => rdB 1 x.1) Qbd (fun x => rdB 600 x.1 && houOk x.2.1) 0 (xs, ())) (fun v => houSm v.1 = true /\ smA v.2.1.2.2.2.2.2.2 = true) := by
  intro xs h
  rw [ev_dv 0 xs]
  refine Qog (Q := fun r => RdOk 1000000 r) h (Qlp (xs, ()) h) fun r0 h0 => ?_
  have hs := Step.refl r0
  refine Qot (Q := fun a y => houOk y = true) Qj8 h0 rfl hs (by decide) fun y z r' hy hs => ?_
  refine Qd6 (pA := fun a : MHou × Int × Unit => houOk a.1) (Q := fun a y => List.length y.2.2.2.2.2.2 <= 5) Qo8 h0 rfl hy hs (by decide) fun q r' hq hs => ?_
  refine Qao (Q := PickQ) Qag h0 rfl hs (by decide) fun p r' _ hs => ?_
  refine Qad (fun _ => ?_) fun _ => Qab ⟨Qd5 hy, Qlg hq⟩
  exact Qd6 (pA := fun a : MHou × Unit => houOk a.1) (Q := fun a y => houSm y = true) Qhi h0 rfl hy hs (by decide) fun b r' hb hs => Qab ⟨hb, Qlg hq⟩
 exact ⟨0, key x.1 hx⟩
noncomputable def Qbl := Classical.choose Qgk
theorem Qo9 (x : In_dv) (hx : (fun x : In_dv => bytesB x.1) x = true) : (fun (x : In_dv) (v : Out_dv) => houSm v.1 = true /\ smA v.2.1.2.2.2.2.2.2 = true) x (Qbl x) := (Classical.choose_spec Qgk x hx).2
theorem s_dv : C_dv (fun x => bytesB x.1) Qbl := S_dv s_a0 s_bx s_du s_a1 s_c1 fun x hx => (Classical.choose_spec Qgk x hx).1
theorem Qgl : ∃ fn : In_c2 -> Out_c2, ∀ x, (fun x : In_c2 => bytesB x.1) x = true -> (∃ k, E_c2 Qcy (fun x => bytesB x.1) Qbx (fun x => rdB 4000 x.1) Qaa (fun x => rdB 1 x.1) Qbd (fun x => rdB 600 x.1 && houOk x.2.1) k x = some (fn x)) /\ (fun (x : In_c2) (v : Out_c2) => houSm v.1 = true) x (fn x) := by
 refine Qav (fun k x => E_c2 Qcy (fun x => bytesB x.1) Qbx (fun x => rdB 4000 x.1) Qaa (fun x => rdB 1 x.1) Qbd (fun x => rdB 600 x.1 && houOk x.2.1) k x) (fun x : In_c2 => bytesB x.1) (fun (x : In_c2) (v : Out_c2) => houSm v.1 = true) (([], [], []), ()) fun x hx => ?_
 have key : ∀ xs : List Int, bytesB xs = true -> Gets (E_c2 Qcy (fun x => bytesB x.1) Qbx (fun x => rdB 4000 x.1) Qaa (fun x => rdB 1 x.1) Qbd (fun x => rdB 600 x.1 && houOk x.2.1) 0 (xs, ())) (fun v => houSm v.1 = true) := by
  intro xs h
  rw [ev_c2 0 xs]
  refine Qog (Q := fun r => RdOk 1000000 r) h (Qlp (xs, ()) h) fun r0 h0 => ?_
  have hs := Step.refl r0
  refine Qot (Q := fun a y => houOk y = true) Qj8 h0 rfl hs (by decide) fun y z r' hy hs => ?_
  refine Qao (Q := PickQ) Qag h0 rfl hs (by decide) fun p r' _ hs => ?_
  refine Qad (fun _ => ?_) fun _ => Qab (Qd5 hy)
  exact Qd6 (pA := fun a : MHou × Unit => houOk a.1) (Q := fun a y => houSm y = true) Qhi h0 rfl hy hs (by decide) fun b r' hb hs => Qab hb
 exact ⟨0, key x.1 hx⟩
noncomputable def Qdm := Classical.choose Qgl
theorem Qpa (x : In_c2) (hx : (fun x : In_c2 => bytesB x.1) x = true) : (fun (x : In_c2) (v : Out_c2) => houSm v.1 = true) x (Qdm x) := (Classical.choose_spec Qgl x hx).2
theorem s_c2 : C_c2 (fun x => bytesB x.1) Qdm := S_c2 s_a0 s_bx s_a1 s_c1 fun x hx => (Classical.choose_spec Qgl x hx).1
theorem Qd9 : ∃ fn : In_c3 -> Out_c3, ∀ x, (fun x : In_c3 => bytesB x.1) x = true -> (∃ k, E_c3 Qdm (fun x => bytesB x.1) k x = some (fn x)) /\ (fun (x : In_c3) (v : Out_c3) => houSm v.1 = true) x (fn x) := by
 refine Qav (fun k x => E_c3 Qdm (fun x => bytesB x.1) k x) (fun x : In_c3 => bytesB x.1) (fun (x : In_c3) (v : Out_c3) => houSm v.1 = true) (([], [], []), ()) fun x hx => ?_
 have key : ∀ xs : List Int, bytesB xs = true -> Gets (E_c3 Qdm (fun x => bytesB x.1) 0 (xs, ())) (fun v => houSm v.1 = true) := by
  intro xs h
  rw [ev_c3 0 xs]
  exact Qan h (Qab (Qpa (xs, ()) h))
 exact ⟨0, key x.1 hx⟩
noncomputable def Qbm := Classical.choose Qd9
theorem Qks (x : In_c3) (hx : (fun x : In_c3 => bytesB x.1) x = true) : (fun (x : In_c3) (v : Out_c3) => houSm v.1 = true) x (Qbm x) := (Classical.choose_spec Qd9 x hx).2
theorem s_c3 : C_c3 (fun x => bytesB x.1) Qbm := S_c3 s_c2 fun x hx => (Classical.choose_spec Qd9 x hx).1
end Go.Proofs.YtddpemilmeijfaaGreat

set_option linter.unusedVariables false
set_option linter.unusedSimpArgs false
namespace Go.Proofs.YtddpemilmeijfaaGreat
open Go.Vm
theorem st_at {l : List MBat} {i : Nat} (hi : i < l.length) : rdL (e := I) (l.map (fun b : MBat => b.2.2.2.1)) (i : Int) = (l.getD i batNone).2.2.2.1 := by
 show (l.map (fun b : MBat => b.2.2.2.1)).getD i (Sh.zero I) = _
 rw [List.getD_eq_getElem?_getD, List.getElem?_map, getBat hi]; rfl
theorem p_states (xs ys : List Int) (h y : MHou) (hsm : houSm h = true) (hl : h.2.2.length <= y.2.2.length)
  (h1 : ∀ i : Nat, i < h.2.2.length -> ((y.2.2.getD i batNone).2.2.2.1 = (h.2.2.getD i batNone).2.2.2.1) ∨ ((h.2.2.getD i batNone).2.2.2.1 = 1 /\ ((y.2.2.getD i batNone).2.2.2.1 = 2 ∨ (y.2.2.getD i batNone).2.2.2.1 = 3)) ∨ ((h.2.2.getD i batNone).2.2.2.1 = 2 /\ (y.2.2.getD i batNone).2.2.2.1 = 4)) :
  WithFuel (fun k => r_lFnHouStates Qbm (fun x => bytesB x.1) (fun x => (x.1.2.2.map (fun b : MBat => b.2.2.2.1), ())) (fun x => houSm x.1) (fun x => (x.1.2.2.map (fun b : MBat => b.2.2.2.1), ())) (fun x => houSm x.1) (fun x => (same x.1 x.2.1, ())) (fun x => decide (List.length x.1 <= 4294967296)) (fun x => (houOk x.1, ())) (fun x => houSm x.1) (fun x => (houOk x.1, ())) (fun x => houSm x.1) Qbl (fun x => bytesB x.1) (fun x => ((houDo x.1 x.2.1).1, (houDo x.1 x.2.1).2, ())) (fun x => houSm x.1 && smA x.2.1.2.2.2.2.2.2) (fun _ => (true, ())) (xs, ys, ()) k pt4 (h0_lFnHouStates xs ys (0 : Int) (h.2.2.map (fun b : MBat => b.2.2.2.1)) (y.2.2.map (fun b : MBat => b.2.2.2.1)))) (fun v => v = (true, ())) := by
 obtain ⟨s1, s2, s3, s4⟩ := Qa1.1 hsm
 have e1 : (h.2.2.map (fun b : MBat => b.2.2.2.1)).length = h.2.2.length := List.length_map _
 have e2 : (y.2.2.map (fun b : MBat => b.2.2.2.1)).length = y.2.2.length := List.length_map _
 refine Qdi (σ := Unit) (h.2.2.map (fun b : MBat => b.2.2.2.1)).length (fun k i _ => r_lFnHouStates Qbm (fun x => bytesB x.1) (fun x => (x.1.2.2.map (fun b : MBat => b.2.2.2.1), ())) (fun x => houSm x.1) (fun x => (x.1.2.2.map (fun b : MBat => b.2.2.2.1), ())) (fun x => houSm x.1) (fun x => (same x.1 x.2.1, ())) (fun x => decide (List.length x.1 <= 4294967296)) (fun x => (houOk x.1, ())) (fun x => houSm x.1) (fun x => (houOk x.1, ())) (fun x => houSm x.1) Qbl (fun x => bytesB x.1) (fun x => ((houDo x.1 x.2.1).1, (houDo x.1 x.2.1).2, ())) (fun x => houSm x.1 && smA x.2.1.2.2.2.2.2.2) (fun _ => (true, ())) (xs, ys, ()) k pt4 (h0_lFnHouStates xs ys (i : Int) (h.2.2.map (fun b : MBat => b.2.2.2.1)) (y.2.2.map (fun b : MBat => b.2.2.2.1)))) (fun v => v = (true, ())) (fun _ _ => True) (fun _ _ => ?_) (fun i _ hi _ next => ?_) (h.2.2.map (fun b : MBat => b.2.2.2.1)).length 0 () (by omega) trivial
 ·refine ⟨1, ?_⟩
  show Gets (r_lFnHouStates Qbm (fun x => bytesB x.1) (fun x => (x.1.2.2.map (fun b : MBat => b.2.2.2.1), ())) (fun x => houSm x.1) (fun x => (x.1.2.2.map (fun b : MBat => b.2.2.2.1), ())) (fun x => houSm x.1) (fun x => (same x.1 x.2.1, ())) (fun x => decide (List.length x.1 <= 4294967296)) (fun x => (houOk x.1, ())) (fun x => houSm x.1) (fun x => (houOk x.1, ())) (fun x => houSm x.1) Qbl (fun x => bytesB x.1) (fun x => ((houDo x.1 x.2.1).1, (houDo x.1 x.2.1).2, ())) (fun x => houSm x.1 && smA x.2.1.2.2.2.2.2.2) (fun _ => (true, ())) (xs, ys, ()) (0 + 1) pt4 _) _
  rw [rd0_lFnHouStates, Qaf (Nat.le_refl _), cond_false]
  exact Qab rfl
 ·obtain ⟨k, hn⟩ := next () trivial
  have hi1 : i < h.2.2.length := by omega
  have hi2 : i < y.2.2.length := by omega
  refine ⟨k + 1, ?_⟩
  show Gets (r_lFnHouStates Qbm (fun x => bytesB x.1) (fun x => (x.1.2.2.map (fun b : MBat => b.2.2.2.1), ())) (fun x => houSm x.1) (fun x => (x.1.2.2.map (fun b : MBat => b.2.2.2.1), ())) (fun x => houSm x.1) (fun x => (same x.1 x.2.1, ())) (fun x => decide (List.length x.1 <= 4294967296)) (fun x => (houOk x.1, ())) (fun x => houSm x.1) (fun x => (houOk x.1, ())) (fun x => houSm x.1) Qbl (fun x => bytesB x.1) (fun x => ((houDo x.1 x.2.1).1, (houDo x.1 x.2.1).2, ())) (fun x => houSm x.1 && smA x.2.1.2.2.2.2.2.2) (fun _ => (true, ())) (xs, ys, ()) (k + 1) pt4 _) _
  have hs := h1 i hi1
  rw [rd0_lFnHouStates, Qai hi, Qai (show i < (y.2.2.map (fun b : MBat => b.2.2.2.1)).length by omega), Qaj hi, Qak (by omega), st_at hi1, st_at hi2]
  generalize (y.2.2.getD i batNone).2.2.2.1 = q at hs ⊢
  generalize (h.2.2.getD i batNone).2.2.2.1 = p at hs ⊢
  simp only [cond_true]
  rcases hs with rfl | ⟨rfl, rfl | rfl⟩ | ⟨rfl, rfl⟩
  ·rw [decide_eq_false (show ¬ q < q by omega), decide_eq_true rfl]
   cases decide (q = 1) <;> exact hn
  ·exact hn
  ·exact hn
  ·exact hn
theorem s_lFnHouStates : C_lFnHouStates (lawPre _) (fun _ => (true, ())) := S_lFnHouStates s_c3 s_c4 s_c5 s_c6 s_dq s_dt s_dv s_fd s_fh fun x hx => by
 have hb1 : bytesB x.1 = true := Qoh (Qhv.1 hx).1.2
 have hb : bytesB x.2.1 = true := Qoh (Qhv.1 hx).2.1.2
 obtain ⟨xs, ys, u0⟩ := x
 have hd := Qo9 (ys, ()) hb
 have he := Qks (xs, ()) hb1
 suffices hA : ∃ k, ∀ h r, (Qbl (ys, ())) = (h, r, ()) -> (houOk h && reqOk r) = true -> r_lFnHouStates Qbm (fun x => bytesB x.1) (fun x => (x.1.2.2.map (fun b : MBat => b.2.2.2.1), ())) (fun x => houSm x.1) (fun x => (x.1.2.2.map (fun b : MBat => b.2.2.2.1), ())) (fun x => houSm x.1) (fun x => (same x.1 x.2.1, ())) (fun x => decide (List.length x.1 <= 4294967296)) (fun x => (houOk x.1, ())) (fun x => houSm x.1) (fun x => (houOk x.1, ())) (fun x => houSm x.1) Qbl (fun x => bytesB x.1) (fun x => ((houDo x.1 x.2.1).1, (houDo x.1 x.2.1).2, ())) (fun x => houSm x.1 && smA x.2.1.2.2.2.2.2.2) (fun _ => (true, ())) (xs, ys, ()) k pt4 (h0_lFnHouStates xs ys (0 : Int) (h.2.2.map (fun b : MBat => b.2.2.2.1)) ((houDo h r).1.2.2.map (fun b : MBat => b.2.2.2.1))) = some (true, ()) by
  obtain ⟨k, hk⟩ := hA
  refine ⟨k, (ev_lFnHouStates k xs ys).trans (Qsr (Qad (fun _ => Qab rfl) fun _ => Qad (fun _ => Qab rfl) fun _ => Qan hb1 ?_))⟩
  generalize Qbm (xs, ()) = D at he ⊢
  obtain ⟨g, u1⟩ := D
  change MHou at g
  have he : houSm g = true := he
  have hg := (Qa1.1 he).2.2.1
  refine Qan he (Qan he ?_)
  dsimp only
  refine Qan (decide_eq_true (by rw [List.length_map]; exact hg)) ?_
  dsimp only
  rw [Qa6, List.length_map, decide_eq_true rfl, cond_true, cond_false, cond_false]
  refine Qan he (Qan he ?_)
  dsimp only
  rw [beq_self_eq_true, cond_true, cond_false]
  refine Qan hb ?_
  generalize Qbl (ys, ()) = D at hd hk ⊢
  obtain ⟨h, r, u⟩ := D
  change MHou at h
  change MReq at r
  have hk := hk h r rfl
  have hd1 : houSm h = true := hd.1
  have hd2 : smA r.2.2.2.2.2.2 = true := hd.2
  have hp : (houSm h && smA r.2.2.2.2.2.2) = true := by rw [hd1, hd2]; rfl
  refine Qan hp ?_
  dsimp only
  cases hc : (houOk h && reqOk r)
  ·rw [Quf hc]
   exact Qab rfl
  ·obtain ⟨hh, hr⟩ := Bool.and_eq_true_iff.1 hc
   have hn := (Qnf hh hr).1.n
   rw [decide_eq_false (show ¬ (houDo h r).2 = 0 by omega), cond_false]
   refine Qan hd1 (Qan (Qpk h r).1 ?_)
   exact ⟨_, hk hc, rfl⟩
 have hd1 : houSm (Qbl (ys, ())).1 = true := hd.1
 generalize Qbl (ys, ()) = D at hd1
 obtain ⟨h, r, u⟩ := D
 change MHou at h
 change MReq at r
 cases hc : (houOk h && reqOk r)
 ·refine ⟨0, fun h' r' e hk => ?_⟩
  cases e
  rw [hc] at hk; cases hk
 ·obtain ⟨hh, hr⟩ := Bool.and_eq_true_iff.1 hc
  have dd := (Qnf hh hr).1
  obtain ⟨k, hk⟩ := (p_states xs ys h (houDo h r).1 hd1 dd.lens.2.2 dd.states).eq
  refine ⟨k, fun h' r' e _ => ?_⟩
  cases e
  exact hk
end Go.Proofs.YtddpemilmeijfaaGreat
