/- The functions that FnHouOrder reaches: what each of them answers, part 2. Conditions stand in each contract. -/
import Derived.Test.YtddpemilmeijfaaGreatFnHouOrderSnA
import Derived.Test.YtddpemilmeijfaaGreatFnHouOrderMoA
set_option linter.unusedVariables false
set_option linter.unusedSimpArgs false
namespace Go.Proofs.YtddpemilmeijfaaGreat
open Go.Vm
theorem Qhc : ∃ fn : In_a2 -> Out_a2, ∀ x, (fun x : In_a2 => rdB 1 x.1) x = true -> (∃ k, E_a2 Qaa (fun x => rdB 1 x.1) k x = some (fn x)) /\ (fun (x : In_a2) (v : Out_a2) => Step 1 x.1 v.2.1 /\ rolesOk v.1 = true) x (fn x) := by
 refine Qay (fun k x => E_a2 Qaa (fun x => rdB 1 x.1) k x) (fun x : In_a2 => rdB 1 x.1) (fun (x : In_a2) (v : Out_a2) => Step 1 x.1 v.2.1 /\ rolesOk v.1 = true) ([], (([], 0), ())) fun x hx => ?_
 have key : ∀ (r0 : MRd), RdOk 1 r0 -> Gets (E_a2 Qaa (fun x => rdB 1 x.1) 0 (r0, ())) (fun v => Step 1 r0 v.2.1 /\ rolesOk v.1 = true) := by
  intro r0 h0
  rw [ev_a2 0 r0]
  refine Qao (Q := PickQ) Qaj h0 rfl (Step.refl r0) (by decide) fun y r' hq hs => ?_
  refine Qae (Qcc hq (by decide) (by exact Int.le_refl _)) ?_
  exact Qab ⟨hs.mono (by decide), Quc hq⟩
 exact ⟨0, key x.1 (Qat.1 hx)⟩
noncomputable def Qav := Classical.choose Qhc
theorem Qpm (x : In_a2) (hx : (fun x : In_a2 => rdB 1 x.1) x = true) : (fun (x : In_a2) (v : Out_a2) => Step 1 x.1 v.2.1 /\ rolesOk v.1 = true) x (Qav x) := (Classical.choose_spec Qhc x hx).2
theorem s_a2 : C_a2 (fun x => rdB 1 x.1) Qav := S_a2 s_a1 fun x hx => (Classical.choose_spec Qhc x hx).1
theorem Qpn (r : MRd) (a : Unit) (h : RdOk 1 r) : Step 1 r (Qav (r, a)).2.1 /\ (fun (a : Unit) y => rolesOk y = true) a (Qav (r, a)).1 := Qpm (r, a) (Qat.2 h)
theorem Qig : ∃ fn : In_ag -> Out_ag, ∀ x, (fun x : In_ag => rdB 3 x.1) x = true -> (∃ k, E_ag Qaa (fun x => rdB 1 x.1) Qbm (fun x => rdB 2 x.1) k x = some (fn x)) /\ (fun (x : In_ag) (v : Out_ag) => Step 3 x.1 v.2.1 /\ True) x (fn x) := by
 refine Qay (fun k x => E_ag Qaa (fun x => rdB 1 x.1) Qbm (fun x => rdB 2 x.1) k x) (fun x : In_ag => rdB 3 x.1) (fun (x : In_ag) (v : Out_ag) => Step 3 x.1 v.2.1 /\ True) ((0, 0), (([], 0), ())) fun x hx => ?_
 have key : ∀ (r0 : MRd) (a1 : MAsk), RdOk 3 r0 -> Gets (E_ag Qaa (fun x => rdB 1 x.1) Qbm (fun x => rdB 2 x.1) 0 (r0, a1, ())) (fun v => Step 3 r0 v.2.1 /\ True) := by
  intro r0 a1 h0
  have hs := Step.refl r0
  rw [ev_ag 0 r0 a1]
  repeat' first
   | refine Qao (Q := PickQ) Qaj h0 rfl (by assumption) (by decide) fun y r' hq hs => ?_
   | refine Qao (Q := fun a y => True) Qg9 h0 rfl (by assumption) (by decide) fun y r' hq hs => ?_
   | refine Qam (Qd8 (by assumption) (by decide) (by decide)) ?_
   | refine Qae (Qd8 (by assumption) (by decide) (by decide)) ?_
   | refine Qae (Qcc (by assumption) (by decide) (by exact Int.le_refl _)) ?_
   | exact Qab ⟨Step.mono (by assumption) (by decide), trivial⟩
   | refine Qac (fun hc => ?_) fun hc => ?_
 exact ⟨0, key x.1 x.2.1 (Qat.1 hx)⟩
noncomputable def Qbo := Classical.choose Qig
theorem Qrl (x : In_ag) (hx : (fun x : In_ag => rdB 3 x.1) x = true) : (fun (x : In_ag) (v : Out_ag) => Step 3 x.1 v.2.1 /\ True) x (Qbo x) := (Classical.choose_spec Qig x hx).2
theorem s_ag : C_ag (fun x => rdB 3 x.1) Qbo := S_ag s_a1 s_af fun x hx => (Classical.choose_spec Qig x hx).1
theorem Qlt (r : MRd) (a : MAsk × Unit) (h : RdOk 3 r) : Step 3 r (Qbo (r, a)).2.1 /\ (True) := Qrl (r, a) (Qat.2 h)
theorem Qjg : ∃ fn : In_an -> Out_an, ∀ x, (fun x : In_an => rdB 1 x.1 && decide (1 <= List.length x.2.1 /\ List.length x.2.1 <= 5)) x = true -> (∃ k, E_an Qaa (fun x => rdB 1 x.1) (fun x => (reqMay x.1 x.2.1, ())) k x = some (fn x)) /\ (fun (x : In_an) (v : Out_an) => Step 1 x.1 v.2.1 /\ (1 <= v.1 /\ v.1 <= 5)) x (fn x) := by
 refine Qay (fun k x => E_an Qaa (fun x => rdB 1 x.1) (fun x => (reqMay x.1 x.2.1, ())) k x) (fun x : In_an => rdB 1 x.1 && decide (1 <= List.length x.2.1 /\ List.length x.2.1 <= 5)) (fun (x : In_an) (v : Out_an) => Step 1 x.1 v.2.1 /\ (1 <= v.1 /\ v.1 <= 5)) (0, (([], 0), ())) fun x hx => ?_
 have key : ∀ (r0 : MRd) (l : List Int) (c : Int), RdOk 1 r0 -> (1 <= List.length l /\ List.length l <= 5) -> Gets (E_an Qaa (fun x => rdB 1 x.1) (fun x => (reqMay x.1 x.2.1, ())) (List.length l + 1) (r0, l, c, ())) (fun v => Step 1 r0 v.2.1 /\ (1 <= v.1 /\ v.1 <= 5)) := by
  intro r0 l c h0 hl
  rw [ev_an _ r0 l c]
  refine Qao (Q := PickQ) Qaj h0 rfl (Step.refl r0) (by decide) fun y r' hq hs => ?_
  have hw : w64 ((List.length l : Int) + (1 : Int)) = (List.length l : Int) + 1 := Qan (by omega) (by omega)
  have hy0 : 0 <= y := hq.1
  have hy1 : y < (List.length l : Int) + 1 := by
   have := hq.2 (by rw [hw]; omega)
   rwa [hw] at this
  refine Qc4 (σ := Unit) (fun k i s => r_an Qaa (fun x => rdB 1 x.1) (fun x => (reqMay x.1 x.2.1, ())) (r0, l, c, ()) k pt0 (h0_an r0 l c y (i : Int) r')) _ (fun _ _ => True) (List.length l) (fun k s _ => ?_) (fun k i s hi _ next => ?_) (List.length l) 0 () (by omega) trivial
  ·rw [rd0_an, Qag (Nat.le_refl _)]
   exact Qab ⟨hs.mono (by decide), show (1 : Int) <= 1 /\ (1 : Int) <= 5 by decide⟩
  ·have e1 : w64 (y + (i : Int)) = y + i := Qan (by omega) (by omega)
   have m0 : 0 <= Int.tmod (y + i) (List.length l) := Int.tmod_nonneg _ (by omega)
   have m1 : Int.tmod (y + i) (List.length l) < (List.length l : Int) := Int.tmod_lt_of_pos _ (by omega)
   have e2 : (bif (decide ((List.length l : Int) = (0 : Int))) then false else true) = true := by rw [decide_eq_false (by omega)]; rfl
   rw [rd0_an, Qai hi, e2, e1, Qak (by omega), decide_eq_true m0, decide_eq_true m1, Qan (x := Int.tmod (y + (i : Int)) (List.length l : Int) + 1) (by omega) (by omega), cond_true]
   refine Qae rfl (Qae rfl ?_)
   refine Qac (fun _ => Qab ⟨hs.mono (by decide), ?_⟩) fun _ => next () trivial
   show 1 <= Int.tmod (y + (i : Int)) (List.length l : Int) + 1 /\ Int.tmod (y + (i : Int)) (List.length l : Int) + 1 <= 5
   omega
 obtain ⟨hx1, hx2⟩ := Bool.and_eq_true_iff.1 hx
 exact ⟨_, key x.1 x.2.1 x.2.2.1 (Qat.1 hx1) (of_decide_eq_true hx2)⟩
noncomputable def Qdj := Classical.choose Qjg
theorem Qtg (x : In_an) (hx : (fun x : In_an => rdB 1 x.1 && decide (1 <= List.length x.2.1 /\ List.length x.2.1 <= 5)) x = true) : (fun (x : In_an) (v : Out_an) => Step 1 x.1 v.2.1 /\ (1 <= v.1 /\ v.1 <= 5)) x (Qdj x) := (Classical.choose_spec Qjg x hx).2
theorem s_an : C_an (fun x => rdB 1 x.1 && decide (1 <= List.length x.2.1 /\ List.length x.2.1 <= 5)) Qdj := S_an s_a1 s_am fun x hx => (Classical.choose_spec Qjg x hx).1
theorem Qth (r : MRd) (a : List Int × Int × Unit) (h : RdOk 1 r) (ha : (fun a : List Int × Int × Unit => decide (1 <= List.length a.1 /\ List.length a.1 <= 5)) a = true) : Step 1 r (Qdj (r, a)).2.1 /\ (fun (a : List Int × Int × Unit) (y : Int) => 1 <= y /\ y <= 5) a (Qdj (r, a)).1 := Qtg (r, a) (Bool.and_eq_true_iff.2 ⟨Qat.2 h, ha⟩)
theorem Qd2 {u k a t n : Int} {v : MDec} (h : 4 <= k /\ k <= 12) : NextQ a (u, k, a, t, n, v, []) := ⟨rfl, rfl, h⟩
theorem Qih : ∃ fn : In_al -> Out_al, ∀ x, (fun x : In_al => rdB 3 x.1 && (houOk x.2.1 && (decide (0 <= x.2.2.1) && decide (x.2.2.1 < (List.length x.2.1.2.2 : Int))))) x = true -> (∃ k, E_al Qbo (fun x => rdB 3 x.1) Qaa (fun x => rdB 1 x.1) (fun x => (hands x.1, ())) (fun x => smB x.1 && sigsOk x.1) k x = some (fn x)) /\ (fun (x : In_al) (v : Out_al) => Step 3 x.1 v.2.1 /\ NextQ x.2.2.1 v.1) x (fn x) := by
 refine Qay (fun k x => E_al Qbo (fun x => rdB 3 x.1) Qaa (fun x => rdB 1 x.1) (fun x => (hands x.1, ())) (fun x => smB x.1 && sigsOk x.1) k x) (fun x : In_al => rdB 3 x.1 && (houOk x.2.1 && (decide (0 <= x.2.2.1) && decide (x.2.2.1 < (List.length x.2.1.2.2 : Int))))) (fun (x : In_al) (v : Out_al) => Step 3 x.1 v.2.1 /\ NextQ x.2.2.1 v.1) ((0, 0, 0, 0, 0, (0, 0), []), (([], 0), ())) fun x hx => ?_
 have key : ∀ (r0 : MRd) (h : MHou) (a : Int), RdOk 3 r0 -> houOk h = true -> 0 <= a -> a < (List.length h.2.2 : Int) -> WithFuel (fun k => E_al Qbo (fun x => rdB 3 x.1) Qaa (fun x => rdB 1 x.1) (fun x => (hands x.1, ())) (fun x => smB x.1 && sigsOk x.1) k (r0, h, a, ())) (fun v => Step 3 r0 v.2.1 /\ NextQ a v.1) := by
  intro r0 h a h0 hh ha ha2
  have hb : batOk (rdL (e := S_BatBatch) h.2.2 a) = true := Qp5 hh ha ha2
  generalize hbe : rdL (e := S_BatBatch) h.2.2 a = b at hb
  obtain ⟨⟨_, _, hbl, _, _, hb6, hb7, hb8⟩, _⟩ := Qba.1 hb
  have hbs := Qi8 hb
  have hs := Step.refl r0
  have hl := Qgs (σ := Unit) b.2.2.1.length (fun k i _ => r_al Qbo (fun x => rdB 3 x.1) Qaa (fun x => rdB 1 x.1) (fun x => (hands x.1, ())) (fun x => smB x.1 && sigsOk x.1) (r0, h, a, ()) k pt0 (h0_al r0 h a (i : Int) (0 : Int) (0 : Int) (0 : Int) (0 : Int) (0 : Int) ((0 : Int), (0 : Int)) [] b r0)) (fun v => Step 3 r0 v.2.1 /\ NextQ a v.1) (fun _ _ => True) (fun s _ => ?_) (fun i s hi _ next => ?_) b.2.2.1.length 0 () (by omega) trivial
  ·obtain ⟨k, hk⟩ := hl
   refine ⟨k, ?_⟩
   show Gets (E_al Qbo (fun x => rdB 3 x.1) Qaa (fun x => rdB 1 x.1) (fun x => (hands x.1, ())) (fun x => smB x.1 && sigsOk x.1) k (r0, h, a, ())) _
   rw [ev_al k r0 h a, hbe]
   refine Qae ?_ hk
   rw [decide_eq_true ha]; exact decide_eq_true ha2
  ·have hl2 := Qgs (σ := Unit) b.2.2.2.2.2.length (fun k i _ => r_al Qbo (fun x => rdB 3 x.1) Qaa (fun x => rdB 1 x.1) (fun x => (hands x.1, ())) (fun x => smB x.1 && sigsOk x.1) (r0, h, a, ()) k pt2 (h1_al r0 h a (i : Int) (0 : Int) (0 : Int) (0 : Int) (0 : Int) (0 : Int) ((0 : Int), (0 : Int)) [] b r0)) (fun v => Step 3 r0 v.2.1 /\ NextQ a v.1) (fun _ _ => True) (fun s _ => ?_) (fun i s hi _ next => ?_) b.2.2.2.2.2.length 0 () (by omega) trivial
   ·obtain ⟨k, hk⟩ := hl2
    refine ⟨k + 1, ?_⟩
    show Gets (r_al Qbo (fun x => rdB 3 x.1) Qaa (fun x => rdB 1 x.1) (fun x => (hands x.1, ())) (fun x => smB x.1 && sigsOk x.1) (r0, h, a, ()) (k + 1) pt0 _) _
    rw [rd0_al]
    repeat with_reducible refine Qca ?_
    rw [Qag (Nat.le_refl _), cond_false]
    exact hk
   ·refine ⟨1, ?_⟩
    show Gets (r_al Qbo (fun x => rdB 3 x.1) Qaa (fun x => rdB 1 x.1) (fun x => (hands x.1, ())) (fun x => smB x.1 && sigsOk x.1) (r0, h, a, ()) (0 + 1) pt2 _) _
    rw [rd1_al, Qag (Nat.le_refl _), cond_false]
    refine Qac (fun _ => Qab ⟨hs.mono (by decide), Qd2 (by decide)⟩) fun _ => ?_
    refine Qam (show (smB b && sigsOk b) = true by rw [hbs, hb7]; rfl) ?_
    exact Qac (fun _ => Qab ⟨hs.mono (by decide), Qd2 (by decide)⟩) fun _ => Qab ⟨hs.mono (by decide), Qd2 (by decide)⟩
   ·obtain ⟨k, hk⟩ := next () trivial
    refine ⟨k + 1, ?_⟩
    show Gets (r_al Qbo (fun x => rdB 3 x.1) Qaa (fun x => rdB 1 x.1) (fun x => (hands x.1, ())) (fun x => smB x.1 && sigsOk x.1) (r0, h, a, ()) (k + 1) pt2 _) _
    rw [rd1_al, Qaf hi, Qai hi, Qak (by omega), cond_true]
    refine Qae rfl ?_
    exact Qac (fun _ => Qab ⟨hs.mono (by decide), Qd2 (by decide)⟩) fun _ => hk
  ·obtain ⟨k, hk⟩ := next () trivial
   refine ⟨k + 1, ?_⟩
   show Gets (r_al Qbo (fun x => rdB 3 x.1) Qaa (fun x => rdB 1 x.1) (fun x => (hands x.1, ())) (fun x => smB x.1 && sigsOk x.1) (r0, h, a, ()) (k + 1) pt0 _) _
   rw [rd0_al]
   repeat with_reducible refine Qca ?_
   rw [Qaf hi, Qai hi, Qak (by omega), cond_true]
   refine Qae rfl ?_
   refine Qac (fun _ => ?_) fun _ => Qac (fun _ => ?_) fun _ => Qac (fun _ => ?_) fun _ => ?_
   ·refine Qao (Q := fun a y => True) Qlt h0 rfl hs (by decide) fun y r' hq hs => ?_
    exact Qac (fun _ => Qab ⟨hs.mono (by decide), Qd2 (by decide)⟩) fun h => absurd h (by decide)
   ·refine Qao (Q := PickQ) Qaj h0 rfl hs (by decide) fun y r' hq hs => ?_
    refine Qae (Qcc hq (by decide) (by exact Int.le_refl _)) ?_
    exact Qac (fun _ => Qab ⟨hs.mono (by decide), Qd2 (by decide)⟩) fun h => absurd h (by decide)
   ·refine Qao (Q := fun a y => True) Qlt h0 rfl hs (by decide) fun y r' hq hs => ?_
    exact Qac (fun _ => Qab ⟨hs.mono (by decide), Qd2 (by decide)⟩) fun h => absurd h (by decide)
   ·exact Qac (fun h => absurd h (by decide)) fun _ => hk
 obtain ⟨hx1, hx2⟩ := Bool.and_eq_true_iff.1 hx
 obtain ⟨hx2, hx3⟩ := Bool.and_eq_true_iff.1 hx2
 obtain ⟨hx3, hx4⟩ := Bool.and_eq_true_iff.1 hx3
 exact key x.1 x.2.1 x.2.2.1 (Qat.1 hx1) hx2 (of_decide_eq_true hx3) (of_decide_eq_true hx4)
noncomputable def Qc9 := Classical.choose Qih
theorem Qrm (x : In_al) (hx : (fun x : In_al => rdB 3 x.1 && (houOk x.2.1 && (decide (0 <= x.2.2.1) && decide (x.2.2.1 < (List.length x.2.1.2.2 : Int))))) x = true) : (fun (x : In_al) (v : Out_al) => Step 3 x.1 v.2.1 /\ NextQ x.2.2.1 v.1) x (Qc9 x) := (Classical.choose_spec Qih x hx).2
theorem s_al : C_al (fun x => rdB 3 x.1 && (houOk x.2.1 && (decide (0 <= x.2.2.1) && decide (x.2.2.1 < (List.length x.2.1.2.2 : Int))))) Qc9 := S_al s_ag s_a1 s_ak fun x hx => (Classical.choose_spec Qih x hx).1
theorem Qrn (r : MRd) (a : MHou × Int × Unit) (h : RdOk 3 r) (ha : (fun a : MHou × Int × Unit => houOk a.1 && (decide (0 <= a.2.1) && decide (a.2.1 < (List.length a.1.2.2 : Int)))) a = true) : Step 3 r (Qc9 (r, a)).2.1 /\ (fun (a : MHou × Int × Unit) (y : MReq) => NextQ a.2.1 y) a (Qc9 (r, a)).1 := Qrm (r, a) (Bool.and_eq_true_iff.2 ⟨Qat.2 h, ha⟩)
theorem Qp7 {u k b t n : Int} {v : MDec} (hu : 1 <= u /\ u <= 6) (hk : 4 <= k /\ k <= 12) (hb : 0 <= b /\ b <= 9) : ReqD (u, (form8 (0, k, b, t, n, v, [])).2) := by
 unfold form8
 have z : (0 : Int) <= 0 /\ (0 : Int) <= 9 := by decide
 have h1 : 1 <= k /\ k <= 12 := by omega
 have h3 : ∀ n : Int, k = 3 -> 0 <= n /\ n <= 10000 := fun n h => by omega
 dsimp only
 repeat' split
 all_goals first | exact Qeb hu z (Nat.zero_le _) h1 (h3 _) | exact Qeb hu hb (Nat.zero_le _) h1 (h3 _)
theorem Qng {y : Int} (h : PickQ ((9 : Int), ()) y) : 4 <= w64 ((4 : Int) + y) /\ w64 ((4 : Int) + y) <= 12 := by
 have h1 : 0 <= y := h.1
 have h2 : y < 9 := h.2 (show (1 : Int) <= 9 by decide)
 rw [Qan (by omega) (by omega)]; omega
theorem Qo2 {y : Int} {n : Nat} (hn : n <= 4) (h : PickQ (w64 ((n : Int) + (1 : Int)), ()) y) : 0 <= y /\ y <= 9 := by
 have h1 : 0 <= y := h.1
 have e : w64 ((n : Int) + (1 : Int)) = (n : Int) + 1 := Qan (by omega) (by omega)
 rw [e] at h
 have h2 : y < (n : Int) + 1 := h.2 (show (1 : Int) <= (n : Int) + 1 by omega)
 omega
theorem Qp8 {h : MHou} {y : Int} (g3 : h.2.2.length <= 4) (hc : decide ((List.length h.2.2 : Int) = (0 : Int)) = false) (hq : PickQ ((List.length h.2.2 : Int), ()) y) : 0 <= y /\ y <= 9 := by
 have h1 : 0 <= y := hq.1
 have h2 := of_decide_eq_false hc
 have h3 : y < (List.length h.2.2 : Int) := hq.2 (show (1 : Int) <= (List.length h.2.2 : Int) by omega)
 omega
theorem Qup {h : MHou} {y : Int} (hh : houOk h = true) (hc : decide ((List.length h.2.2 : Int) = (0 : Int)) = false) (hq : PickQ ((List.length h.2.2 : Int), ()) y) : (fun a : MHou × Int × Unit => houOk a.1 && (decide (0 <= a.2.1) && decide (a.2.1 < (List.length a.1.2.2 : Int)))) (h, y, ()) = true := by
 have h1 : 0 <= y := hq.1
 have h2 := of_decide_eq_false hc
 have h3 : y < (List.length h.2.2 : Int) := hq.2 (show (1 : Int) <= (List.length h.2.2 : Int) by omega)
 show (houOk h && (decide (0 <= y) && decide (y < (List.length h.2.2 : Int)))) = true
 rw [hh, decide_eq_true h1, decide_eq_true h3]; rfl
theorem Qjh : ∃ fn : In_ao -> Out_ao, ∀ x, (fun x : In_ao => rdB 90 x.1 && houOk x.2.1) x = true -> (∃ k, E_ao Qaa (fun x => rdB 1 x.1) Qa0 (fun x => rdB 76 x.1) (fun x => (spcNow x.1, ())) (fun x => decide (List.length x.1 <= 4294967296)) (fun x => (form8 x.1, ())) Qc9 (fun x => rdB 3 x.1 && (houOk x.2.1 && (decide (0 <= x.2.2.1) && decide (x.2.2.1 < (List.length x.2.1.2.2 : Int))))) Qdj (fun x => rdB 1 x.1 && decide (1 <= List.length x.2.1 /\ List.length x.2.1 <= 5)) k x = some (fn x)) /\ (fun (x : In_ao) (v : Out_ao) => Step 90 x.1 v.2.1 /\ ReqD v.1) x (fn x) := by
 refine Qay (fun k x => E_ao Qaa (fun x => rdB 1 x.1) Qa0 (fun x => rdB 76 x.1) (fun x => (spcNow x.1, ())) (fun x => decide (List.length x.1 <= 4294967296)) (fun x => (form8 x.1, ())) Qc9 (fun x => rdB 3 x.1 && (houOk x.2.1 && (decide (0 <= x.2.2.1) && decide (x.2.2.1 < (List.length x.2.1.2.2 : Int))))) Qdj (fun x => rdB 1 x.1 && decide (1 <= List.length x.2.1 /\ List.length x.2.1 <= 5)) k x) (fun x : In_ao => rdB 90 x.1 && houOk x.2.1) (fun (x : In_ao) (v : Out_ao) => Step 90 x.1 v.2.1 /\ ReqD v.1) ((1, 1, 0, 0, 0, (0, 0), []), (([], 0), ())) fun x hx => ?_
 have key : ∀ (r0 : MRd) (h : MHou), RdOk 90 r0 -> houOk h = true -> Gets (E_ao Qaa (fun x => rdB 1 x.1) Qa0 (fun x => rdB 76 x.1) (fun x => (spcNow x.1, ())) (fun x => decide (List.length x.1 <= 4294967296)) (fun x => (form8 x.1, ())) Qc9 (fun x => rdB 3 x.1 && (houOk x.2.1 && (decide (0 <= x.2.2.1) && decide (x.2.2.1 < (List.length x.2.1.2.2 : Int))))) Qdj (fun x => rdB 1 x.1 && decide (1 <= List.length x.2.1 /\ List.length x.2.1 <= 5)) 0 (r0, h, ())) (fun v => Step 90 r0 v.2.1 /\ ReqD v.1) := by
  intro r0 h h0 hh
  obtain ⟨g1, g2, g3, g4⟩ := Qaz.1 hh
  have g1 := (Qdv.1 g1).1
  have hsp := (Qbn.1 g2).1
  have hnow : decide (List.length h.2.1 <= 4294967296) = true := decide_eq_true (by omega)
  have hwho : decide (1 <= List.length h.1 /\ List.length h.1 <= 5) = true := decide_eq_true g1
  have hs := Step.refl r0
  rw [ev_ao 0 r0 h]
  repeat' first
   | with_reducible refine Qao (Q := PickQ) Qaj h0 rfl (by assumption) (by decide) fun y r' hq hs => ?_
   | with_reducible refine Qao (Q := fun a y => 1 <= List.length y /\ List.length y <= 5) Qdw h0 rfl (by assumption) (by decide) fun y r' hq hs => ?_
   | with_reducible refine Qew (pA := fun a : List Int × Int × Unit => decide (1 <= List.length a.1 /\ List.length a.1 <= 5)) (Q := fun a y => 1 <= y /\ y <= 5) Qth h0 rfl hwho (by assumption) (by decide) fun y r' hq hs => ?_
   | with_reducible refine Qam hnow ?_
   | refine Qew (pA := fun a : MHou × Int × Unit => houOk a.1 && (decide (0 <= a.2.1) && decide (a.2.1 < (List.length a.1.2.2 : Int)))) (Q := fun a y => NextQ a.2.1 y) Qrn h0 rfl (Qup hh (by assumption) (by assumption)) (by assumption) (by decide) fun y r' hq hs => ?_
   | refine Qae (Qcc (by assumption) (by decide) (by exact Int.le_refl _)) ?_
   | with_reducible refine Qca ?_
   | with_reducible refine Qab ⟨Step.mono (by assumption) (by decide), ?_⟩
   | with_reducible refine Qac (fun hc => ?_) fun hc => ?_
   | exact Qeb (Qgf (by assumption)) ⟨by decide, by decide⟩ (And.right (by assumption)) ⟨by decide, by decide⟩ (fun h => absurd h (by decide))
   | exact Qeb (Qhh (by assumption)) ⟨by decide, by decide⟩ (And.right (by assumption)) ⟨by decide, by decide⟩ (fun h => absurd h (by decide))
   | exact Qeb (Qgf (by assumption)) ⟨by decide, by decide⟩ (Nat.zero_le _) ⟨by decide, by decide⟩ (fun h => absurd h (by decide))
   | exact Qeb (Qhh (by assumption)) ⟨by decide, by decide⟩ (Nat.zero_le _) ⟨by decide, by decide⟩ (fun h => absurd h (by decide))
   | exact Qeb (Qgf (by assumption)) ⟨by decide, by decide⟩ (Nat.zero_le _) ⟨by decide, by decide⟩ (fun _ => Qp4 _)
   | exact Qeb (Qhh (by assumption)) ⟨by decide, by decide⟩ (Nat.zero_le _) ⟨by decide, by decide⟩ (fun _ => Qp4 _)
   | exact Qnb (Qgf (by assumption)) (Qp8 g3 (by assumption) (by assumption)) (by assumption)
   | exact Qnb (Qhh (by assumption)) (Qp8 g3 (by assumption) (by assumption)) (by assumption)
   | exact Qp7 (Qgf (by assumption)) (Qng (by assumption)) (Qo2 g3 (by assumption))
   | exact Qp7 (Qhh (by assumption)) (Qng (by assumption)) (Qo2 g3 (by assumption))
 obtain ⟨hx1, hx2⟩ := Bool.and_eq_true_iff.1 hx
 exact ⟨0, key x.1 x.2.1 (Qat.1 hx1) hx2⟩
noncomputable def Qax := Classical.choose Qjh
theorem Qti (x : In_ao) (hx : (fun x : In_ao => rdB 90 x.1 && houOk x.2.1) x = true) : (fun (x : In_ao) (v : Out_ao) => Step 90 x.1 v.2.1 /\ ReqD v.1) x (Qax x) := (Classical.choose_spec Qjh x hx).2
theorem s_ao : C_ao (fun x => rdB 90 x.1 && houOk x.2.1) Qax := S_ao s_a1 s_a8 s_a9 s_aa s_al s_an fun x hx => (Classical.choose_spec Qjh x hx).1
theorem Qnh (r : MRd) (a : MHou × Unit) (h : RdOk 90 r) (ha : (fun a : MHou × Unit => houOk a.1) a = true) : Step 90 r (Qax (r, a)).2.1 /\ (fun (a : MHou × Unit) (y : MReq) => ReqD y) a (Qax (r, a)).1 := Qti (r, a) (Bool.and_eq_true_iff.2 ⟨Qat.2 h, ha⟩)
theorem Qhd : ∃ fn : In_bx -> Out_bx, ∀ x, (fun x : In_bx => rdB 4000 x.1) x = true -> (∃ k, E_bx Qav (fun x => rdB 1 x.1) (fun x => (houNew x.1, ())) (fun x => decide (List.length x.1 <= 4294967296)) Qaa (fun x => rdB 1 x.1) Qax (fun x => rdB 90 x.1 && houOk x.2.1) (fun x => (x.1, ())) (fun x => houSm x.1) (fun x => ((houGo x.1 x.2.1).1, (houGo x.1 x.2.1).2, ())) (fun x => goPre x.1 x.2.1) Qbv (fun x => audSm x.1 && smA x.2.1.2.2.2.2.2.2) k x = some (fn x)) /\ (fun (x : In_bx) (v : Out_bx) => Step 4000 x.1 v.2.2.1 /\ houOk v.1 = true) x (fn x) := by
 refine Qay (fun k x => E_bx Qav (fun x => rdB 1 x.1) (fun x => (houNew x.1, ())) (fun x => decide (List.length x.1 <= 4294967296)) Qaa (fun x => rdB 1 x.1) Qax (fun x => rdB 90 x.1 && houOk x.2.1) (fun x => (x.1, ())) (fun x => houSm x.1) (fun x => ((houGo x.1 x.2.1).1, (houGo x.1 x.2.1).2, ())) (fun x => goPre x.1 x.2.1) Qbv (fun x => audSm x.1 && smA x.2.1.2.2.2.2.2.2) k x) (fun x : In_bx => rdB 4000 x.1) (fun (x : In_bx) (v : Out_bx) => Step 4000 x.1 v.2.2.1 /\ houOk v.1 = true) (hou0, ([], (([], 0), ()))) fun x hx => ?_
 have key : ∀ (r0 : MRd), RdOk 4000 r0 -> WithFuel (fun k => E_bx Qav (fun x => rdB 1 x.1) (fun x => (houNew x.1, ())) (fun x => decide (List.length x.1 <= 4294967296)) Qaa (fun x => rdB 1 x.1) Qax (fun x => rdB 90 x.1 && houOk x.2.1) (fun x => (x.1, ())) (fun x => houSm x.1) (fun x => ((houGo x.1 x.2.1).1, (houGo x.1 x.2.1).2, ())) (fun x => goPre x.1 x.2.1) Qbv (fun x => audSm x.1 && smA x.2.1.2.2.2.2.2.2) k (r0, ())) (fun v => Step 4000 r0 v.2.2.1 /\ houOk v.1 = true) := by
  intro r0 h0
  suffices hl : ∀ (n : Nat) (h : MHou) (r : MRd), n <= 40 -> houOk h = true -> Step 3 r0 r -> WithFuel (fun k => r_bx Qav (fun x => rdB 1 x.1) (fun x => (houNew x.1, ())) (fun x => decide (List.length x.1 <= 4294967296)) Qaa (fun x => rdB 1 x.1) Qax (fun x => rdB 90 x.1 && houOk x.2.1) (fun x => (x.1, ())) (fun x => houSm x.1) (fun x => ((houGo x.1 x.2.1).1, (houGo x.1 x.2.1).2, ())) (fun x => goPre x.1 x.2.1) Qbv (fun x => audSm x.1 && smA x.2.1.2.2.2.2.2.2) (r0, ()) k pt2 (h0_bx r0 (n : Int) [] [] [] h r [])) (fun v => Step 4000 r0 v.2.2.1 /\ houOk v.1 = true) by
   have hg : Gets (some ()) (fun _ => ∃ (n : Nat) (h : MHou) (r : MRd), n <= 40 /\ houOk h = true /\ Step 3 r0 r /\ ∀ k, Gets (r_bx Qav (fun x => rdB 1 x.1) (fun x => (houNew x.1, ())) (fun x => decide (List.length x.1 <= 4294967296)) Qaa (fun x => rdB 1 x.1) Qax (fun x => rdB 90 x.1 && houOk x.2.1) (fun x => (x.1, ())) (fun x => houSm x.1) (fun x => ((houGo x.1 x.2.1).1, (houGo x.1 x.2.1).2, ())) (fun x => goPre x.1 x.2.1) Qbv (fun x => audSm x.1 && smA x.2.1.2.2.2.2.2.2) (r0, ()) k pt2 (h0_bx r0 (n : Int) [] [] [] h r [])) (fun v => Step 4000 r0 v.2.2.1 /\ houOk v.1 = true) -> Gets (E_bx Qav (fun x => rdB 1 x.1) (fun x => (houNew x.1, ())) (fun x => decide (List.length x.1 <= 4294967296)) Qaa (fun x => rdB 1 x.1) Qax (fun x => rdB 90 x.1 && houOk x.2.1) (fun x => (x.1, ())) (fun x => houSm x.1) (fun x => ((houGo x.1 x.2.1).1, (houGo x.1 x.2.1).2, ())) (fun x => goPre x.1 x.2.1) Qbv (fun x => audSm x.1 && smA x.2.1.2.2.2.2.2.2) k (r0, ())) (fun v => Step 4000 r0 v.2.2.1 /\ houOk v.1 = true)) := by
    refine Qab ?_
    obtain ⟨e1, e2⟩ := Qpn r0 () (h0.mono (by decide))
    have e2 : rolesOk (Qav (r0, ())).1 = true := e2
    have hs1 : Step 1 r0 (Qav (r0, ())).2.1 := e1
    obtain ⟨e3, e4⟩ := Qaj (Qav (r0, ())).2.1 ((40 : Int), ()) (hs1.ok h0 (by decide))
    have hs2 := hs1.trans e3
    obtain ⟨e5, e6⟩ := Qaj (Qaa ((Qav (r0, ())).2.1, ((40 : Int), ()))).2.1 ((5 : Int), ()) (hs2.ok h0 (by decide))
    have hs3 := hs2.trans e5
    obtain ⟨n, hn, hne⟩ := Qsy e6 e4
    have hro : houOk ((Qav (r0, ())).1, [], []) = true := Qsv e2
    have hnew : houNew (Qav (r0, ())).1 = ((Qav (r0, ())).1, [], []) := by unfold houNew; rw [e2]; rfl
    refine ⟨n, _, _, hn, hro, hs3, fun k hk => ?_⟩
    rw [ev_bx k r0]
    refine Qam (Qat.2 (h0.mono (by decide))) ?_
    refine Qam (decide_eq_true (show List.length (Qav (r0, ())).1 <= 4294967296 by have := (Qdv.1 e2).1; omega)) ?_
    refine Qam (Qat.2 (hs1.ok h0 (by decide))) ?_
    refine Qam (Qat.2 (hs2.ok h0 (by decide))) ?_
    refine Qae (Qcc e6 (by decide) (by exact Int.le_refl _)) ?_
    dsimp only
    rw [hnew, hne]
    exact hk
   obtain ⟨_, _, n, h, r, h1, h2, h3, h4⟩ := hg
   obtain ⟨k, hk⟩ := hl n h r h1 h2 h3
   exact ⟨k, h4 k hk⟩
  intro n h r hn hh hs
  have := Qgs (σ := MHou × MRd × List MAud) n (fun k i s => r_bx Qav (fun x => rdB 1 x.1) (fun x => (houNew x.1, ())) (fun x => decide (List.length x.1 <= 4294967296)) Qaa (fun x => rdB 1 x.1) Qax (fun x => rdB 90 x.1 && houOk x.2.1) (fun x => (x.1, ())) (fun x => houSm x.1) (fun x => ((houGo x.1 x.2.1).1, (houGo x.1 x.2.1).2, ())) (fun x => goPre x.1 x.2.1) Qbv (fun x => audSm x.1 && smA x.2.1.2.2.2.2.2.2) (r0, ()) k pt2 (h0_bx r0 ((n - i : Nat) : Int) [] [] [] s.1 s.2.1 s.2.2)) (fun v => Step 4000 r0 v.2.2.1 /\ houOk v.1 = true) (fun i s => houOk s.1 = true /\ Step (3 + 90 * i) r0 s.2.1 /\ List.length s.2.2 <= i /\ ∀ a ∈ s.2.2, smA a.1.2.2.2.2.2.2 = true) (fun s hi => ?_) (fun i s hlt hi next => ?_) n 0 (h, r, []) (by omega) ⟨hh, hs, Nat.le_refl _, fun a ha => by cases ha⟩
  ·exact this
  ·obtain ⟨i1, i2, i3, i4⟩ := hi
   refine ⟨1, ?_⟩
   show Gets (r_bx Qav (fun x => rdB 1 x.1) (fun x => (houNew x.1, ())) (fun x => decide (List.length x.1 <= 4294967296)) Qaa (fun x => rdB 1 x.1) Qax (fun x => rdB 90 x.1 && houOk x.2.1) (fun x => (x.1, ())) (fun x => houSm x.1) (fun x => ((houGo x.1 x.2.1).1, (houGo x.1 x.2.1).2, ())) (fun x => goPre x.1 x.2.1) Qbv (fun x => audSm x.1 && smA x.2.1.2.2.2.2.2.2) (r0, ()) (0 + 1) pt2 (h0_bx r0 ((n - n : Nat) : Int) [] [] [] s.1 s.2.1 s.2.2)) _
   rw [Nat.sub_self, rd0_bx]
   exact Qab ⟨i2.mono (by omega), i1⟩
  ·obtain ⟨i1, i2, i3, i4⟩ := hi
   obtain ⟨h, r, l⟩ := s
   have i1 : houOk h = true := i1
   have i2 : Step (3 + 90 * i) r0 r := i2
   have i3 : List.length l <= i := i3
   obtain ⟨q1, q2⟩ := Qnh r (h, ()) (i2.ok h0 (by omega)) i1
   have q2 : ReqD (Qax (r, (h, ()))).1 := q2
   have hs2 := i2.trans q1
   have hsm := Qev i1
   have htests : smA (Qax (r, (h, ()))).1.2.2.2.2.2.2 = true := decide_eq_true (Nat.le_trans q2.2.2.1 (by decide))
   have hgo : goPre h (Qax (r, (h, ()))).1 = true := Qgw.2 ⟨Qd1.2 ⟨hsm, (Qaz.1 i1).2.2.1⟩, htests, q2.1.1, q2.2.1.1⟩
   have hok2 := Qsx i1 q2.g
   have haud : (audSm l && smA (Qax (r, (h, ()))).1.2.2.2.2.2.2) = true := Bool.and_eq_true_iff.2 ⟨Qnf.2 ⟨by omega, i4⟩, htests⟩
   have hput := Qtf (l, (Qax (r, (h, ()))).1, ()) haud
   have hw : w64 (((n - i : Nat) : Int) - 1) = ((n - (i + 1) : Nat) : Int) := by rw [Qan (by omega) (by omega)]; omega
   cases hc : decide ((houGo h (Qax (r, (h, ()))).1).2 = 1)
   ·obtain ⟨k, hk⟩ := next (h, (Qax (r, (h, ()))).2.1, l) ⟨i1, hs2.mono (by omega), Nat.le_succ_of_le i3, i4⟩
    refine ⟨k + 1, ?_⟩
    show Gets (r_bx Qav (fun x => rdB 1 x.1) (fun x => (houNew x.1, ())) (fun x => decide (List.length x.1 <= 4294967296)) Qaa (fun x => rdB 1 x.1) Qax (fun x => rdB 90 x.1 && houOk x.2.1) (fun x => (x.1, ())) (fun x => houSm x.1) (fun x => ((houGo x.1 x.2.1).1, (houGo x.1 x.2.1).2, ())) (fun x => goPre x.1 x.2.1) Qbv (fun x => audSm x.1 && smA x.2.1.2.2.2.2.2.2) (r0, ()) (k + 1) pt2 (h0_bx r0 ((n - i : Nat) : Int) [] [] [] h r l)) _
    rw [rd0_bx, hw, decide_eq_true (show (0 : Int) < ((n - i : Nat) : Int) by omega), cond_true]
    refine Qam (Bool.and_eq_true_iff.2 ⟨Qat.2 (i2.ok h0 (by omega)), i1⟩) (Qam hsm (Qam hgo ?_))
    dsimp only
    rw [hc]
    exact hk
   ·obtain ⟨k, hk⟩ := next ((houGo h (Qax (r, (h, ()))).1).1, (Qax (r, (h, ()))).2.1, (Qbv (l, (Qax (r, (h, ()))).1, ())).1) ⟨hok2, hs2.mono (by omega), by have := hput.1; dsimp only at this ⊢; omega, hput.2⟩
    refine ⟨k + 1, ?_⟩
    show Gets (r_bx Qav (fun x => rdB 1 x.1) (fun x => (houNew x.1, ())) (fun x => decide (List.length x.1 <= 4294967296)) Qaa (fun x => rdB 1 x.1) Qax (fun x => rdB 90 x.1 && houOk x.2.1) (fun x => (x.1, ())) (fun x => houSm x.1) (fun x => ((houGo x.1 x.2.1).1, (houGo x.1 x.2.1).2, ())) (fun x => goPre x.1 x.2.1) Qbv (fun x => audSm x.1 && smA x.2.1.2.2.2.2.2.2) (r0, ()) (k + 1) pt2 (h0_bx r0 ((n - i : Nat) : Int) [] [] [] h r l)) _
    rw [rd0_bx, hw, decide_eq_true (show (0 : Int) < ((n - i : Nat) : Int) by omega), cond_true]
    refine Qam (Bool.and_eq_true_iff.2 ⟨Qat.2 (i2.ok h0 (by omega)), i1⟩) (Qam hsm (Qam hgo ?_))
    dsimp only
    rw [hc, cond_true]
    exact Qam haud hk
 exact key x.1 (Qat.1 hx)
noncomputable def Qc1 := Classical.choose Qhd
theorem Qpo (x : In_bx) (hx : (fun x : In_bx => rdB 4000 x.1) x = true) : (fun (x : In_bx) (v : Out_bx) => Step 4000 x.1 v.2.2.1 /\ houOk v.1 = true) x (Qc1 x) := (Classical.choose_spec Qhd x hx).2
theorem s_bx : C_bx (fun x => rdB 4000 x.1) Qc1 := S_bx s_a2 s_a4 s_a1 s_ao s_as s_bl s_bw fun x hx => (Classical.choose_spec Qhd x hx).1
theorem Qpp (r : MRd) (a : Unit) (h : RdOk 4000 r) : Step 4000 r (Qc1 (r, a)).2.2.1 /\ (fun (a : Unit) (y : MHou) => houOk y = true) a (Qc1 (r, a)).1 := Qpo (r, a) (Qat.2 h)
theorem Qgi : ∃ fn : In_by -> Out_by, ∀ x, (fun x : In_by => rdB 180 x.1 && houOk x.2.1) x = true -> (∃ k, E_by Qax (fun x => rdB 90 x.1 && houOk x.2.1) Qaa (fun x => rdB 1 x.1) Qbk (fun x => rdB 7 x.1) Qa0 (fun x => rdB 76 x.1) k x = some (fn x)) /\ (fun (x : In_by) (v : Out_by) => Step 180 x.1 v.2.1 /\ List.length v.1.2.2.2.2.2.2 <= 5) x (fn x) := by
 refine Qay (fun k x => E_by Qax (fun x => rdB 90 x.1 && houOk x.2.1) Qaa (fun x => rdB 1 x.1) Qbk (fun x => rdB 7 x.1) Qa0 (fun x => rdB 76 x.1) k x) (fun x : In_by => rdB 180 x.1 && houOk x.2.1) (fun (x : In_by) (v : Out_by) => Step 180 x.1 v.2.1 /\ List.length v.1.2.2.2.2.2.2 <= 5) ((1, 1, 0, 0, 0, (0, 0), []), (([], 0), ())) fun x hx => ?_
 have key : ∀ (r0 : MRd) (h : MHou) (n : Int), RdOk 180 r0 -> houOk h = true -> Gets (E_by Qax (fun x => rdB 90 x.1 && houOk x.2.1) Qaa (fun x => rdB 1 x.1) Qbk (fun x => rdB 7 x.1) Qa0 (fun x => rdB 76 x.1) 0 (r0, h, n, ())) (fun v => Step 180 r0 v.2.1 /\ List.length v.1.2.2.2.2.2.2 <= 5) := by
  intro r0 h n h0 hh
  rw [ev_by 0 r0 h n]
  refine Qew (pA := fun a : MHou × Unit => houOk a.1) (Q := fun a y => ReqD y) Qnh h0 rfl hh (Step.refl r0) (by decide) fun q r' hq hs => ?_
  have hq5 : List.length q.2.2.2.2.2.2 <= 5 := hq.2.2.1
  clear hq
  repeat' first
   | with_reducible refine Qao (Q := PickQ) Qaj h0 rfl (by assumption) (by decide) fun y r' hq hs => ?_
   | with_reducible refine Qao (Q := fun a y => True) Qgu h0 rfl (by assumption) (by decide) fun y r' hq hs => ?_
   | with_reducible refine Qao (Q := fun a y => 1 <= List.length y /\ List.length y <= 5) Qdw h0 rfl (by assumption) (by decide) fun y r' hq hs => ?_
   | refine Qae (Qcc (by assumption) (by decide) (by exact Int.le_refl _)) ?_
   | with_reducible refine Qca ?_
   | exact Qab ⟨Step.mono (by assumption) (by decide), hq5⟩
   | exact Qab ⟨Step.mono (by assumption) (by decide), And.right (by assumption)⟩
   | with_reducible refine Qac (fun hc => ?_) fun hc => ?_
 obtain ⟨hx1, hx2⟩ := Bool.and_eq_true_iff.1 hx
 exact ⟨0, key x.1 x.2.1 x.2.2.1 (Qat.1 hx1) hx2⟩
noncomputable def Qcp := Classical.choose Qgi
theorem Qo3 (x : In_by) (hx : (fun x : In_by => rdB 180 x.1 && houOk x.2.1) x = true) : (fun (x : In_by) (v : Out_by) => Step 180 x.1 v.2.1 /\ List.length v.1.2.2.2.2.2.2 <= 5) x (Qcp x) := (Classical.choose_spec Qgi x hx).2
theorem s_by : C_by (fun x => rdB 180 x.1 && houOk x.2.1) Qcp := S_by s_ao s_a1 s_a6 s_a8 fun x hx => (Classical.choose_spec Qgi x hx).1
theorem Qo4 (r : MRd) (a : MHou × Int × Unit) (h : RdOk 180 r) (ha : (fun a : MHou × Int × Unit => houOk a.1) a = true) : Step 180 r (Qcp (r, a)).2.1 /\ (fun (a : MHou × Int × Unit) (y : MReq) => List.length y.2.2.2.2.2.2 <= 5) a (Qcp (r, a)).1 := Qo3 (r, a) (Bool.and_eq_true_iff.2 ⟨Qat.2 h, ha⟩)
end Go.Proofs.YtddpemilmeijfaaGreat

set_option linter.unusedVariables false
set_option linter.unusedSimpArgs false
namespace Go.Proofs.YtddpemilmeijfaaGreat
open Go.Vm
theorem Qv0 {n : Nat} (h : decide ((0 : Int) < (n : Int)) = true) : (bif decide ((0 : Int) <= (1 : Int)) then decide ((1 : Int) <= (n : Int)) else false) = true := by
 have := of_decide_eq_true h
 exact decide_eq_true (show (1 : Int) <= (n : Int) by omega)
theorem Qvj {n : Nat} (h : decide ((0 : Int) < (n : Int)) = true) : (bif decide ((0 : Int) <= (0 : Int)) then decide ((0 : Int) < (n : Int)) else false) = true := h
theorem _root_.List.length_drop_le' {α : Type} (l : List α) (i : Nat) : (l.drop i).length <= l.length := by rw [List.length_drop]; omega
theorem Qhe : ∃ fn : In_c1 -> Out_c1, ∀ x, (fun x : In_c1 => rdB 50 x.1 && batOk x.2.1) x = true -> (∃ k, E_c1 (fun x => (x.1, ())) (fun x => smB x.1) Qaa (fun x => rdB 1 x.1) (fun x => (batMark x.1, ())) (fun x => smB x.1) Qdh (fun x => rdB 40 x.1) k x = some (fn x)) /\ (fun (x : In_c1) (v : Out_c1) => Step 50 x.1 v.2.1 /\ BatDr v.1) x (fn x) := by
 refine Qay (fun k x => E_c1 (fun x => (x.1, ())) (fun x => smB x.1) Qaa (fun x => rdB 1 x.1) (fun x => (batMark x.1, ())) (fun x => smB x.1) Qdh (fun x => rdB 40 x.1) k x) (fun x : In_c1 => rdB 50 x.1 && batOk x.2.1) (fun (x : In_c1) (v : Out_c1) => Step 50 x.1 v.2.1 /\ BatDr v.1) (batNone, (([], 0), ())) fun x hx => ?_
 have key : ∀ (r0 : MRd) (b : MBat), RdOk 50 r0 -> batOk b = true -> Gets (E_c1 (fun x => (x.1, ())) (fun x => smB x.1) Qaa (fun x => rdB 1 x.1) (fun x => (batMark x.1, ())) (fun x => smB x.1) Qdh (fun x => rdB 40 x.1) 0 (r0, b, ())) (fun v => Step 50 r0 v.2.1 /\ BatDr v.1) := by
  intro r0 b h0 hb
  obtain ⟨hT, hS, hD⟩ := Qop hb
  have hsm : smB b = true := Qi8 hb
  have hs := Step.refl r0
  have hS7 : List.length b.2.2.2.2.1 <= 7 := by omega
  have hD4 : List.length b.2.2.2.2.2 <= 4 := by omega
  have hfS : ∀ z, fitL b.2.2.2.2.1 [z] = true := fun z => Qau (by show List.length b.2.2.2.2.1 + 1 <= _; omega)
  have hfD : ∀ z, fitL b.2.2.2.2.2 [z] = true := fun z => Qau (by show List.length b.2.2.2.2.2 + 1 <= _; omega)
  rw [ev_c1 0 r0 b]
  refine Qam hsm ?_
  dsimp only
  repeat' first
   | with_reducible refine Qao (Q := PickQ) Qaj h0 rfl (by assumption) (by decide) fun y r' hq hs => ?_
   | with_reducible refine Qao (Q := fun a y => List.length y.2.2.2.2 <= 3 /\ tS y) Qrg h0 rfl (by assumption) (by decide) fun y r' hq hs => ?_
   | with_reducible refine Qam hsm ?_
   | refine Qae (Qcc (by assumption) (by decide) (by exact Int.le_refl _)) ?_
   | refine Qae (hfS _) ?_
   | refine Qae (hfD _) ?_
   | with_reducible refine Qca ?_
   | with_reducible refine Qab ⟨Step.mono (by assumption) (by decide), ?_⟩
   | exact ⟨hT, hS7, hD4⟩
   | exact ⟨TstsDr.nil, hS7, hD4⟩
   | exact ⟨TstsDr.set hT (by assumption), hS7, hD4⟩
   | exact ⟨hT, Qoq hS, hD4⟩
   | exact ⟨hT, hS7, Qoq hD⟩
   | exact ⟨hT, Nat.le_trans (List.length_drop_le' _ _) hS7, hD4⟩
   | (refine Qae (Qv0 (by assumption)) ?_)
   | (refine Qae (Qvj (by assumption)) ?_)
   | with_reducible refine Qac (fun hc => ?_) fun hc => ?_
 obtain ⟨hx1, hx2⟩ := Bool.and_eq_true_iff.1 hx
 exact ⟨0, key x.1 x.2.1 (Qat.1 hx1) hx2⟩
noncomputable def Qc2 := Classical.choose Qhe
theorem Qpq (x : In_c1) (hx : (fun x : In_c1 => rdB 50 x.1 && batOk x.2.1) x = true) : (fun (x : In_c1) (v : Out_c1) => Step 50 x.1 v.2.1 /\ BatDr v.1) x (Qc2 x) := (Classical.choose_spec Qhe x hx).2
theorem s_c1 : C_c1 (fun x => rdB 50 x.1 && batOk x.2.1) Qc2 := S_c1 s_ar s_a1 s_ai s_c0 fun x hx => (Classical.choose_spec Qhe x hx).1
theorem Qpr (r : MRd) (a : MBat × Unit) (h : RdOk 50 r) (ha : (fun a : MBat × Unit => batOk a.1) a = true) : Step 50 r (Qc2 (r, a)).2.1 /\ (fun (a : MBat × Unit) (y : MBat) => BatDr y) a (Qc2 (r, a)).1 := Qpq (r, a) (Bool.and_eq_true_iff.2 ⟨Qat.2 h, ha⟩)
end Go.Proofs.YtddpemilmeijfaaGreat

set_option linter.unusedVariables false
set_option linter.unusedSimpArgs false
namespace Go.Proofs.YtddpemilmeijfaaGreat
open Go.Vm
theorem Qv1 {l : List MSpc} (h : SpQ l) : smS l = true := Qbx.2 ⟨by have := h.1; omega, fun s hs => by have := h.2 s hs; omega⟩
theorem Qps {h : MHou} {l : List Int} (hk : houSm h = true) (hl : l.length <= h.1.length) : houSm (l, h.2) = true := by
 obtain ⟨h1, h2, h3, h4⟩ := Qa6.1 hk
 exact Qa6.2 ⟨Nat.le_trans hl h1, h2, h3, h4⟩
theorem Qpt {h : MHou} {l : List MSpc} (hk : houSm h = true) (hl : smS l = true) : houSm (h.1, l, h.2.2) = true := by
 obtain ⟨h1, h2, h3, h4⟩ := Qa6.1 hk
 exact Qa6.2 ⟨h1, hl, h3, h4⟩
theorem Qtj {h : MHou} {b : MBat} (hk : houOk h = true) (hb : smB b = true) : houSm (h.1, h.2.1, List.append h.2.2 [b]) = true := by
 obtain ⟨h1, h2, h3, h4⟩ := Qa6.1 (Qev hk)
 have hl := (Qaz.1 hk).2.2.1
 refine Qa6.2 ⟨h1, h2, ?_, fun x hx => ?_⟩
 ·show (h.2.2 ++ [b]).length <= _
  rw [List.length_append]; show h.2.2.length + 1 <= _; omega
 ·have hx : x ∈ h.2.2 ++ [b] := hx
  rcases List.mem_append.1 hx with hx | hx
  ·exact h4 x hx
  ·rw [List.mem_singleton.1 hx]; exact hb
theorem Qtk {h : MHou} {i : Nat} {b : MBat} (hk : houSm h = true) (hb : smB b = true) : houSm (h.1, h.2.1, h.2.2.set i b) = true := by
 obtain ⟨h1, h2, h3, h4⟩ := Qa6.1 hk
 refine Qa6.2 ⟨h1, h2, by show (h.2.2.set i b).length <= _; rw [List.length_set]; exact h3, fun x hx => ?_⟩
 rcases List.mem_or_eq_of_mem_set hx with hx | hx
 ·exact h4 x hx
 ·rw [hx]; exact hb
theorem Qex : ∃ fn : In_c2 -> Out_c2, ∀ x, (fun x : In_c2 => rdB 600 x.1 && houOk x.2.1) x = true -> (∃ k, E_c2 (fun x => (x.1, ())) (fun x => houSm x.1) Qaa (fun x => rdB 1 x.1) Qc0 (fun x => rdB 500 x.1) Qa0 (fun x => rdB 76 x.1) (fun x => (batNew x.1 x.2.1 x.2.2.1, ())) (fun x => smA x.2.1) Qc2 (fun x => rdB 50 x.1 && batOk x.2.1) k x = some (fn x)) /\ (fun (x : In_c2) (v : Out_c2) => Step 600 x.1 v.2.1 /\ houSm v.1 = true) x (fn x) := by
 refine Qay (fun k x => E_c2 (fun x => (x.1, ())) (fun x => houSm x.1) Qaa (fun x => rdB 1 x.1) Qc0 (fun x => rdB 500 x.1) Qa0 (fun x => rdB 76 x.1) (fun x => (batNew x.1 x.2.1 x.2.2.1, ())) (fun x => smA x.2.1) Qc2 (fun x => rdB 50 x.1 && batOk x.2.1) k x) (fun x : In_c2 => rdB 600 x.1 && houOk x.2.1) (fun (x : In_c2) (v : Out_c2) => Step 600 x.1 v.2.1 /\ houSm v.1 = true) (([], [], []), (([], 0), ())) fun x hx => ?_
 have key : ∀ (r0 : MRd) (h : MHou), RdOk 600 r0 -> houOk h = true -> Gets (E_c2 (fun x => (x.1, ())) (fun x => houSm x.1) Qaa (fun x => rdB 1 x.1) Qc0 (fun x => rdB 500 x.1) Qa0 (fun x => rdB 76 x.1) (fun x => (batNew x.1 x.2.1 x.2.2.1, ())) (fun x => smA x.2.1) Qc2 (fun x => rdB 50 x.1 && batOk x.2.1) 0 (r0, h, ())) (fun v => Step 600 r0 v.2.1 /\ houSm v.1 = true) := by
  intro r0 h h0 hh
  have hsm : houSm h = true := Qev hh
  have hs := Step.refl r0
  have hro := (Qdv.1 (Qaz.1 hh).1).1
  have hbl := (Qaz.1 hh).2.2.1
  rw [ev_c2 0 r0 h]
  refine Qam hsm ?_
  dsimp only
  refine Qao (Q := PickQ) Qaj h0 rfl hs (by decide) fun y r' hq hs => ?_
  refine Qac (fun _ => ?_) fun _ => ?_
  ·refine Qao (Q := PickQ) Qaj h0 rfl hs (by decide) fun z r' hz hs => ?_
   refine Qao (Q := PickQ) Qaj h0 rfl hs (by decide) fun o r' _ hs => ?_
   refine Qae (Qcc hz (by omega) (Int.le_refl _)) ?_
   exact Qab ⟨hs.mono (by decide), Qps hsm (by rw [List.length_set]; exact Nat.le_refl _)⟩
  refine Qac (fun _ => ?_) fun _ => ?_
  ·refine Qao (Q := fun a y => SpQ y) Qpi h0 rfl hs (by decide) fun z r' hz hs => ?_
   exact Qab ⟨hs.mono (by decide), Qpt hsm (Qv1 hz)⟩
  refine Qac (fun _ => ?_) fun _ => ?_
  ·refine Qao (Q := PickQ) Qaj h0 rfl hs (by decide) fun z r' hz hs => ?_
   refine Qao (Q := fun a y => 1 <= List.length y /\ List.length y <= 5) Qdw h0 rfl hs (by decide) fun t r' ht hs => ?_
   refine Qam (show smA t = true from Qlf ht.2) ?_
   refine Qae (Qau (by show List.length h.2.2 + 1 <= _; omega)) ?_
   exact Qab ⟨hs.mono (by decide), Qtj hh (Qsz _ _ _ ht.2).sm⟩
  refine Qac (fun hc => ?_) fun _ => Qab ⟨hs.mono (by decide), hsm⟩
  have hc : (0 : Int) < (List.length h.2.2 : Int) := of_decide_eq_true hc
  refine Qao (Q := PickQ) Qaj h0 rfl hs (by decide) fun z r' hz hs => ?_
  have hz0 : 0 <= z := hz.1
  have hz1 : z < (List.length h.2.2 : Int) := hz.2 (show (1 : Int) <= (List.length h.2.2 : Int) by omega)
  have hi := Qcc hz (by omega) (Int.le_refl _)
  have hb := Qp5 hh hz0 hz1
  refine Qae hi ?_
  refine Qew (pA := fun a : MBat × Unit => batOk a.1) (Q := fun a y => BatDr y) Qpr h0 rfl hb hs (by decide) fun b r' hb hs => ?_
  refine Qae hi ?_
  exact Qab ⟨hs.mono (by decide), Qtk hsm (BatDr.sm hb)⟩
 obtain ⟨hx1, hx2⟩ := Bool.and_eq_true_iff.1 hx
 exact ⟨0, key x.1 x.2.1 (Qat.1 hx1) hx2⟩
noncomputable def Qb2 := Classical.choose Qex
theorem Qmb (x : In_c2) (hx : (fun x : In_c2 => rdB 600 x.1 && houOk x.2.1) x = true) : (fun (x : In_c2) (v : Out_c2) => Step 600 x.1 v.2.1 /\ houSm v.1 = true) x (Qb2 x) := (Classical.choose_spec Qex x hx).2
theorem s_c2 : C_c2 (fun x => rdB 600 x.1 && houOk x.2.1) Qb2 := S_c2 s_as s_a1 s_bz s_a8 s_b1 s_c1 fun x hx => (Classical.choose_spec Qex x hx).1
theorem Qmc (r : MRd) (a : MHou × Unit) (h : RdOk 600 r) (ha : (fun a : MHou × Unit => houOk a.1) a = true) : Step 600 r (Qb2 (r, a)).2.1 /\ (fun (a : MHou × Unit) (y : MHou) => houSm y = true) a (Qb2 (r, a)).1 := Qmb (r, a) (Bool.and_eq_true_iff.2 ⟨Qat.2 h, ha⟩)
theorem Qgj : ∃ fn : In_c3 -> Out_c3, ∀ x, (fun x : In_c3 => bytesB x.1) x = true -> (∃ k, E_c3 Qek (fun x => bytesB x.1) Qc1 (fun x => rdB 4000 x.1) Qcp (fun x => rdB 180 x.1 && houOk x.2.1) Qaa (fun x => rdB 1 x.1) Qb2 (fun x => rdB 600 x.1 && houOk x.2.1) k x = some (fn x)) /\ (fun (x : In_c3) (v : Out_c3) => houSm v.1 = true /\ smA v.2.1.2.2.2.2.2.2 = true) x (fn x) := by
 refine Qay (fun k x => E_c3 Qek (fun x => bytesB x.1) Qc1 (fun x => rdB 4000 x.1) Qcp (fun x => rdB 180 x.1 && houOk x.2.1) Qaa (fun x => rdB 1 x.1) Qb2 (fun x => rdB 600 x.1 && houOk x.2.1) k x) (fun x : In_c3 => bytesB x.1) (fun (x : In_c3) (v : Out_c3) => houSm v.1 = true /\ smA v.2.1.2.2.2.2.2.2 = true) (([], [], []), (0, 0, 0, 0, 0, (0, 0), []), ()) fun x hx => ?_
 have key : ∀ xs : List Int, bytesB xs = true -> Gets (E_c3 Qek (fun x => bytesB x.1) Qc1 (fun x => rdB 4000 x.1) Qcp (fun x => rdB 180 x.1 && houOk x.2.1) Qaa (fun x => rdB 1 x.1) Qb2 (fun x => rdB 600 x.1 && houOk x.2.1) 0 (xs, ())) (fun v => houSm v.1 = true /\ smA v.2.1.2.2.2.2.2.2 = true) := by
  intro xs h
  rw [ev_c3 0 xs]
  refine Qt4 (Q := fun r => RdOk 1000000 r) h (Qrf (xs, ()) h) fun r0 h0 => ?_
  have hs := Step.refl r0
  refine Qud (Q := fun a y => houOk y = true) Qpp h0 rfl hs (by decide) fun y z r' hy hs => ?_
  refine Qew (pA := fun a : MHou × Int × Unit => houOk a.1) (Q := fun a y => List.length y.2.2.2.2.2.2 <= 5) Qo4 h0 rfl hy hs (by decide) fun q r' hq hs => ?_
  refine Qao (Q := PickQ) Qaj h0 rfl hs (by decide) fun p r' _ hs => ?_
  refine Qac (fun _ => ?_) fun _ => Qab ⟨Qev hy, Qlf hq⟩
  exact Qew (pA := fun a : MHou × Unit => houOk a.1) (Q := fun a y => houSm y = true) Qmc h0 rfl hy hs (by decide) fun b r' hb hs => Qab ⟨hb, Qlf hq⟩
 exact ⟨0, key x.1 hx⟩
noncomputable def Qel := Classical.choose Qgj
theorem Qji (x : In_c3) (hx : (fun x : In_c3 => bytesB x.1) x = true) : (fun (x : In_c3) (v : Out_c3) => houSm v.1 = true /\ smA v.2.1.2.2.2.2.2.2 = true) x (Qel x) := (Classical.choose_spec Qgj x hx).2
theorem s_c3 : C_c3 (fun x => bytesB x.1) Qel := S_c3 s_a0 s_bx s_by s_a1 s_c2 fun x hx => (Classical.choose_spec Qgj x hx).1
end Go.Proofs.YtddpemilmeijfaaGreat

set_option linter.unusedVariables false
set_option linter.unusedSimpArgs false
namespace Go.Proofs.YtddpemilmeijfaaGreat
open Go.Vm
theorem s_lFnHouOrder : C_lFnHouOrder (lawPre _) (fun _ => (true, ())) := S_lFnHouOrder s_c3 s_f5 s_f9 s_fg s_bo s_fh s_dw s_fl fun x hx => ⟨0, (ev_lFnHouOrder 0 x.1 x.2.1).trans (by
 have hb1 : bytesB x.1 = true := Qoe (Qhw.1 hx).1.2
 have hb2 : bytesB x.2.1 = true := Qoe (Qhw.1 hx).2.1.2
 have hd := Qji (x.1, ()) hb1
 have he := Qji (x.2.1, ()) hb2
 refine Qsm (Qac (fun _ => Qab rfl) fun _ => Qac (fun _ => Qab rfl) fun _ => Qam hb1 (Qam hb2 ?_))
 generalize Qel (x.1, ()) = D at hd ⊢
 generalize Qel (x.2.1, ()) = D2 at he ⊢
 obtain ⟨h, q, u⟩ := D
 obtain ⟨h2, r, u2⟩ := D2
 change MHou at h
 change MReq at q
 change MReq at r
 have hd1 : houSm h = true := hd.1
 have hd2 : smA q.2.2.2.2.2.2 = true := hd.2
 have he2 : smA r.2.2.2.2.2.2 = true := he.2
 have hp : (houSm h && smA q.2.2.2.2.2.2) = true := by rw [hd1, hd2]; rfl
 have hsx := (Qg4 h q).1
 refine Qam hp (Qam hp ?_)
 dsimp only
 refine Qam hsx ?_
 dsimp only
 rw [Qa1, decide_eq_true rfl, cond_true, cond_false, cond_false]
 cases hc : (houOk h && reqOk q)
 ·rw [Quf hc, decide_eq_true rfl, cond_true]
  refine Qam he2 (Qam he2 ?_)
  dsimp only
  rw [beq_self_eq_true]
  exact Qab rfl
 ·obtain ⟨hh, hq⟩ := Bool.and_eq_true_iff.1 hc
  have hn := (Qs1 hh hq).1.n
  rw [decide_eq_false (show ¬ (houDo h q).2 = 0 by omega), cond_false]
  have last : ∀ z : Bool, Gets (cl (smA r.2.2.2.2.2.2) (z, ()) fun y8 => (bif smA r.2.2.2.2.2.2 then (bif (y8.1 == z) then (some (true, ())) else (some (false, ()))) else none)) (fun v => v = (true, ())) := by
   intro z
   refine Qam he2 ?_
   dsimp only
   rw [he2, beq_self_eq_true]
   exact Qab rfl
  refine Qam he2 ?_
  dsimp only
  cases hr : reqOk r
  ·rw [cond_false, cond_true]; exact last _
  ·rw [cond_true, cond_false]
   refine Qac (fun _ => last _) fun a1 => ?_
   refine Qac (fun _ => last _) fun a2 => ?_
   refine Qac (fun _ => last _) fun a3 => ?_
   obtain ⟨g1, g2, g3⟩ := Qs4 hh hq hr (of_decide_eq_false a1) (of_decide_eq_false a2) (of_decide_eq_false a3)
   have p1 : (houSm (houDo h q).1 && smA r.2.2.2.2.2.2) = true := by rw [hsx, he2]; rfl
   have p2 : (houSm h && smA r.2.2.2.2.2.2) = true := by rw [hd1, he2]; rfl
   have p3 : (houSm (houDo h r).1 && smA q.2.2.2.2.2.2) = true := by rw [(Qg4 h r).1, hd2]; rfl
   have p4 := (Qg4 (houDo h q).1 r).1
   refine Qam p1 (Qam p2 (Qam p3 ?_))
   dsimp only
   refine Qam p4 ?_
   dsimp only
   rw [g1, Qa1, cond_true, decide_eq_true g2, cond_true, decide_eq_true g3]
   exact Qab rfl)⟩
end Go.Proofs.YtddpemilmeijfaaGreat
