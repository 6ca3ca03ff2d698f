/- The functions that FnHouSpec reaches: what each of them answers, part 2. Conditions stand in each contract. -/
import Derived.Test.YtddpemilmeijfaaGreatFnHouSpecSnA
import Derived.Test.YtddpemilmeijfaaGreatFnHouSpecMoA
set_option linter.unusedVariables false
set_option linter.unusedSimpArgs false
namespace Go.Proofs.YtddpemilmeijfaaGreat
open Go.Vm
theorem Qha : ∃ fn : In_a2 -> Out_a2, ∀ x, (fun x : In_a2 => rdB 1 x.1) x = true -> (∃ k, E_a2 Qaa (fun x => rdB 1 x.1) k x = some (fn x)) /\ (fun (x : In_a2) (v : Out_a2) => Step 1 x.1 v.2.1 /\ rolesOk v.1 = true) x (fn x) := by
 refine Qaz (fun k x => E_a2 Qaa (fun x => rdB 1 x.1) k x) (fun x : In_a2 => rdB 1 x.1) (fun (x : In_a2) (v : Out_a2) => Step 1 x.1 v.2.1 /\ rolesOk v.1 = true) ([], (([], 0), ())) fun x hx => ?_
 have key : ∀ (r0 : MRd), RdOk 1 r0 -> Gets (E_a2 Qaa (fun x => rdB 1 x.1) 0 (r0, ())) (fun v => Step 1 r0 v.2.1 /\ rolesOk v.1 = true) := by
  intro r0 h0
  rw [ev_a2 0 r0]
  refine Qan (Q := PickQ) Qaj h0 rfl (Step.refl r0) (by decide) fun y r' hq hs => ?_
  refine Qae (Qcd hq (by decide) (by exact Int.le_refl _)) ?_
  exact Qac ⟨hs.mono (by decide), Qt6 hq⟩
 exact ⟨0, key x.1 (Qat.1 hx)⟩
noncomputable def Qaw := Classical.choose Qha
theorem Qpi (x : In_a2) (hx : (fun x : In_a2 => rdB 1 x.1) x = true) : (fun (x : In_a2) (v : Out_a2) => Step 1 x.1 v.2.1 /\ rolesOk v.1 = true) x (Qaw x) := (Classical.choose_spec Qha x hx).2
theorem s_a2 : C_a2 (fun x => rdB 1 x.1) Qaw := S_a2 s_a1 fun x hx => (Classical.choose_spec Qha x hx).1
theorem Qpj (r : MRd) (a : Unit) (h : RdOk 1 r) : Step 1 r (Qaw (r, a)).2.1 /\ (fun (a : Unit) y => rolesOk y = true) a (Qaw (r, a)).1 := Qpi (r, a) (Qat.2 h)
theorem Qic : ∃ fn : In_ag -> Out_ag, ∀ x, (fun x : In_ag => rdB 3 x.1) x = true -> (∃ k, E_ag Qaa (fun x => rdB 1 x.1) Qbn (fun x => rdB 2 x.1) k x = some (fn x)) /\ (fun (x : In_ag) (v : Out_ag) => Step 3 x.1 v.2.1 /\ True) x (fn x) := by
 refine Qaz (fun k x => E_ag Qaa (fun x => rdB 1 x.1) Qbn (fun x => rdB 2 x.1) k x) (fun x : In_ag => rdB 3 x.1) (fun (x : In_ag) (v : Out_ag) => Step 3 x.1 v.2.1 /\ True) ((0, 0), (([], 0), ())) fun x hx => ?_
 have key : ∀ (r0 : MRd) (a1 : MAsk), RdOk 3 r0 -> Gets (E_ag Qaa (fun x => rdB 1 x.1) Qbn (fun x => rdB 2 x.1) 0 (r0, a1, ())) (fun v => Step 3 r0 v.2.1 /\ True) := by
  intro r0 a1 h0
  have hs := Step.refl r0
  rw [ev_ag 0 r0 a1]
  repeat' first
   | refine Qan (Q := PickQ) Qaj h0 rfl (by assumption) (by decide) fun y r' hq hs => ?_
   | refine Qan (Q := fun a y => True) Qg7 h0 rfl (by assumption) (by decide) fun y r' hq hs => ?_
   | refine Qao (Qea (by assumption) (by decide) (by decide)) ?_
   | refine Qae (Qea (by assumption) (by decide) (by decide)) ?_
   | refine Qae (Qcd (by assumption) (by decide) (by exact Int.le_refl _)) ?_
   | exact Qac ⟨Step.mono (by assumption) (by decide), trivial⟩
   | refine Qaf (fun hc => ?_) fun hc => ?_
 exact ⟨0, key x.1 x.2.1 (Qat.1 hx)⟩
noncomputable def Qbq := Classical.choose Qic
theorem Qri (x : In_ag) (hx : (fun x : In_ag => rdB 3 x.1) x = true) : (fun (x : In_ag) (v : Out_ag) => Step 3 x.1 v.2.1 /\ True) x (Qbq x) := (Classical.choose_spec Qic x hx).2
theorem s_ag : C_ag (fun x => rdB 3 x.1) Qbq := S_ag s_a1 s_af fun x hx => (Classical.choose_spec Qic x hx).1
theorem Qlp (r : MRd) (a : MAsk × Unit) (h : RdOk 3 r) : Step 3 r (Qbq (r, a)).2.1 /\ (True) := Qri (r, a) (Qat.2 h)
theorem Qjc : ∃ fn : In_an -> Out_an, ∀ x, (fun x : In_an => rdB 1 x.1 && decide (1 <= List.length x.2.1 /\ List.length x.2.1 <= 5)) x = true -> (∃ k, E_an Qaa (fun x => rdB 1 x.1) (fun x => (reqMay x.1 x.2.1, ())) k x = some (fn x)) /\ (fun (x : In_an) (v : Out_an) => Step 1 x.1 v.2.1 /\ (1 <= v.1 /\ v.1 <= 5)) x (fn x) := by
 refine Qaz (fun k x => E_an Qaa (fun x => rdB 1 x.1) (fun x => (reqMay x.1 x.2.1, ())) k x) (fun x : In_an => rdB 1 x.1 && decide (1 <= List.length x.2.1 /\ List.length x.2.1 <= 5)) (fun (x : In_an) (v : Out_an) => Step 1 x.1 v.2.1 /\ (1 <= v.1 /\ v.1 <= 5)) (0, (([], 0), ())) fun x hx => ?_
 have key : ∀ (r0 : MRd) (l : List Int) (c : Int), RdOk 1 r0 -> (1 <= List.length l /\ List.length l <= 5) -> Gets (E_an Qaa (fun x => rdB 1 x.1) (fun x => (reqMay x.1 x.2.1, ())) (List.length l + 1) (r0, l, c, ())) (fun v => Step 1 r0 v.2.1 /\ (1 <= v.1 /\ v.1 <= 5)) := by
  intro r0 l c h0 hl
  rw [ev_an _ r0 l c]
  refine Qan (Q := PickQ) Qaj h0 rfl (Step.refl r0) (by decide) fun y r' hq hs => ?_
  have hw : w64 ((List.length l : Int) + (1 : Int)) = (List.length l : Int) + 1 := Qam (by omega) (by omega)
  have hy0 : 0 <= y := hq.1
  have hy1 : y < (List.length l : Int) + 1 := by
   have := hq.2 (by rw [hw]; omega)
   rwa [hw] at this
  refine Qc5 (σ := Unit) (fun k i s => r_an Qaa (fun x => rdB 1 x.1) (fun x => (reqMay x.1 x.2.1, ())) (r0, l, c, ()) k pt0 (h0_an r0 l c y (i : Int) r')) _ (fun _ _ => True) (List.length l) (fun k s _ => ?_) (fun k i s hi _ next => ?_) (List.length l) 0 () (by omega) trivial
  ·rw [rd0_an, Qag (Nat.le_refl _)]
   exact Qac ⟨hs.mono (by decide), show (1 : Int) <= 1 /\ (1 : Int) <= 5 by decide⟩
  ·have e1 : w64 (y + (i : Int)) = y + i := Qam (by omega) (by omega)
   have m0 : 0 <= Int.tmod (y + i) (List.length l) := Int.tmod_nonneg _ (by omega)
   have m1 : Int.tmod (y + i) (List.length l) < (List.length l : Int) := Int.tmod_lt_of_pos _ (by omega)
   have e2 : (bif (decide ((List.length l : Int) = (0 : Int))) then false else true) = true := by rw [decide_eq_false (by omega)]; rfl
   rw [rd0_an, Qai hi, e2, e1, Qak (by omega), decide_eq_true m0, decide_eq_true m1, Qam (x := Int.tmod (y + (i : Int)) (List.length l : Int) + 1) (by omega) (by omega), cond_true]
   refine Qae rfl (Qae rfl ?_)
   refine Qaf (fun _ => Qac ⟨hs.mono (by decide), ?_⟩) fun _ => next () trivial
   show 1 <= Int.tmod (y + (i : Int)) (List.length l : Int) + 1 /\ Int.tmod (y + (i : Int)) (List.length l : Int) + 1 <= 5
   omega
 obtain ⟨hx1, hx2⟩ := Bool.and_eq_true_iff.1 hx
 exact ⟨_, key x.1 x.2.1 x.2.2.1 (Qat.1 hx1) (of_decide_eq_true hx2)⟩
noncomputable def Qdl := Classical.choose Qjc
theorem Qs9 (x : In_an) (hx : (fun x : In_an => rdB 1 x.1 && decide (1 <= List.length x.2.1 /\ List.length x.2.1 <= 5)) x = true) : (fun (x : In_an) (v : Out_an) => Step 1 x.1 v.2.1 /\ (1 <= v.1 /\ v.1 <= 5)) x (Qdl x) := (Classical.choose_spec Qjc x hx).2
theorem s_an : C_an (fun x => rdB 1 x.1 && decide (1 <= List.length x.2.1 /\ List.length x.2.1 <= 5)) Qdl := S_an s_a1 s_am fun x hx => (Classical.choose_spec Qjc x hx).1
theorem Qta (r : MRd) (a : List Int × Int × Unit) (h : RdOk 1 r) (ha : (fun a : List Int × Int × Unit => decide (1 <= List.length a.1 /\ List.length a.1 <= 5)) a = true) : Step 1 r (Qdl (r, a)).2.1 /\ (fun (a : List Int × Int × Unit) (y : Int) => 1 <= y /\ y <= 5) a (Qdl (r, a)).1 := Qs9 (r, a) (Bool.and_eq_true_iff.2 ⟨Qat.2 h, ha⟩)
theorem Qd4 {u k a t n : Int} {v : MDec} (h : 4 <= k /\ k <= 12) : NextQ a (u, k, a, t, n, v, []) := ⟨rfl, rfl, h⟩
theorem Qid : ∃ fn : In_al -> Out_al, ∀ x, (fun x : In_al => rdB 3 x.1 && (houOk x.2.1 && (decide (0 <= x.2.2.1) && decide (x.2.2.1 < (List.length x.2.1.2.2 : Int))))) x = true -> (∃ k, E_al Qbq (fun x => rdB 3 x.1) Qaa (fun x => rdB 1 x.1) (fun x => (hands x.1, ())) (fun x => smB x.1 && sigsOk x.1) k x = some (fn x)) /\ (fun (x : In_al) (v : Out_al) => Step 3 x.1 v.2.1 /\ NextQ x.2.2.1 v.1) x (fn x) := by
 refine Qaz (fun k x => E_al Qbq (fun x => rdB 3 x.1) Qaa (fun x => rdB 1 x.1) (fun x => (hands x.1, ())) (fun x => smB x.1 && sigsOk x.1) k x) (fun x : In_al => rdB 3 x.1 && (houOk x.2.1 && (decide (0 <= x.2.2.1) && decide (x.2.2.1 < (List.length x.2.1.2.2 : Int))))) (fun (x : In_al) (v : Out_al) => Step 3 x.1 v.2.1 /\ NextQ x.2.2.1 v.1) ((0, 0, 0, 0, 0, (0, 0), []), (([], 0), ())) fun x hx => ?_
 have key : ∀ (r0 : MRd) (h : MHou) (a : Int), RdOk 3 r0 -> houOk h = true -> 0 <= a -> a < (List.length h.2.2 : Int) -> WithFuel (fun k => E_al Qbq (fun x => rdB 3 x.1) Qaa (fun x => rdB 1 x.1) (fun x => (hands x.1, ())) (fun x => smB x.1 && sigsOk x.1) k (r0, h, a, ())) (fun v => Step 3 r0 v.2.1 /\ NextQ a v.1) := by
  intro r0 h a h0 hh ha ha2
  have hb : batOk (rdL (e := S_BatBatch) h.2.2 a) = true := Qp1 hh ha ha2
  generalize hbe : rdL (e := S_BatBatch) h.2.2 a = b at hb
  obtain ⟨⟨_, _, hbl, _, _, hb6, hb7, hb8⟩, _⟩ := Qbb.1 hb
  have hbs := Qi4 hb
  have hs := Step.refl r0
  have hl := Qdi (σ := Unit) b.2.2.1.length (fun k i _ => r_al Qbq (fun x => rdB 3 x.1) Qaa (fun x => rdB 1 x.1) (fun x => (hands x.1, ())) (fun x => smB x.1 && sigsOk x.1) (r0, h, a, ()) k pt0 (h0_al r0 h a (i : Int) (0 : Int) (0 : Int) (0 : Int) (0 : Int) (0 : Int) ((0 : Int), (0 : Int)) [] b r0)) (fun v => Step 3 r0 v.2.1 /\ NextQ a v.1) (fun _ _ => True) (fun s _ => ?_) (fun i s hi _ next => ?_) b.2.2.1.length 0 () (by omega) trivial
  ·obtain ⟨k, hk⟩ := hl
   refine ⟨k, ?_⟩
   show Gets (E_al Qbq (fun x => rdB 3 x.1) Qaa (fun x => rdB 1 x.1) (fun x => (hands x.1, ())) (fun x => smB x.1 && sigsOk x.1) k (r0, h, a, ())) _
   rw [ev_al k r0 h a, hbe]
   refine Qae ?_ hk
   rw [decide_eq_true ha]; exact decide_eq_true ha2
  ·have hl2 := Qdi (σ := Unit) b.2.2.2.2.2.length (fun k i _ => r_al Qbq (fun x => rdB 3 x.1) Qaa (fun x => rdB 1 x.1) (fun x => (hands x.1, ())) (fun x => smB x.1 && sigsOk x.1) (r0, h, a, ()) k pt2 (h1_al r0 h a (i : Int) (0 : Int) (0 : Int) (0 : Int) (0 : Int) (0 : Int) ((0 : Int), (0 : Int)) [] b r0)) (fun v => Step 3 r0 v.2.1 /\ NextQ a v.1) (fun _ _ => True) (fun s _ => ?_) (fun i s hi _ next => ?_) b.2.2.2.2.2.length 0 () (by omega) trivial
   ·obtain ⟨k, hk⟩ := hl2
    refine ⟨k + 1, ?_⟩
    show Gets (r_al Qbq (fun x => rdB 3 x.1) Qaa (fun x => rdB 1 x.1) (fun x => (hands x.1, ())) (fun x => smB x.1 && sigsOk x.1) (r0, h, a, ()) (k + 1) pt0 _) _
    rw [rd0_al]
    repeat with_reducible refine Qcb ?_
    rw [Qag (Nat.le_refl _), cond_false]
    exact hk
   ·refine ⟨1, ?_⟩
    show Gets (r_al Qbq (fun x => rdB 3 x.1) Qaa (fun x => rdB 1 x.1) (fun x => (hands x.1, ())) (fun x => smB x.1 && sigsOk x.1) (r0, h, a, ()) (0 + 1) pt2 _) _
    rw [rd1_al, Qag (Nat.le_refl _), cond_false]
    refine Qaf (fun _ => Qac ⟨hs.mono (by decide), Qd4 (by decide)⟩) fun _ => ?_
    refine Qao (show (smB b && sigsOk b) = true by rw [hbs, hb7]; rfl) ?_
    exact Qaf (fun _ => Qac ⟨hs.mono (by decide), Qd4 (by decide)⟩) fun _ => Qac ⟨hs.mono (by decide), Qd4 (by decide)⟩
   ·obtain ⟨k, hk⟩ := next () trivial
    refine ⟨k + 1, ?_⟩
    show Gets (r_al Qbq (fun x => rdB 3 x.1) Qaa (fun x => rdB 1 x.1) (fun x => (hands x.1, ())) (fun x => smB x.1 && sigsOk x.1) (r0, h, a, ()) (k + 1) pt2 _) _
    rw [rd1_al, Qab hi, Qai hi, Qak (by omega), cond_true]
    refine Qae rfl ?_
    exact Qaf (fun _ => Qac ⟨hs.mono (by decide), Qd4 (by decide)⟩) fun _ => hk
  ·obtain ⟨k, hk⟩ := next () trivial
   refine ⟨k + 1, ?_⟩
   show Gets (r_al Qbq (fun x => rdB 3 x.1) Qaa (fun x => rdB 1 x.1) (fun x => (hands x.1, ())) (fun x => smB x.1 && sigsOk x.1) (r0, h, a, ()) (k + 1) pt0 _) _
   rw [rd0_al]
   repeat with_reducible refine Qcb ?_
   rw [Qab hi, Qai hi, Qak (by omega), cond_true]
   refine Qae rfl ?_
   refine Qaf (fun _ => ?_) fun _ => Qaf (fun _ => ?_) fun _ => Qaf (fun _ => ?_) fun _ => ?_
   ·refine Qan (Q := fun a y => True) Qlp h0 rfl hs (by decide) fun y r' hq hs => ?_
    exact Qaf (fun _ => Qac ⟨hs.mono (by decide), Qd4 (by decide)⟩) fun h => absurd h (by decide)
   ·refine Qan (Q := PickQ) Qaj h0 rfl hs (by decide) fun y r' hq hs => ?_
    refine Qae (Qcd hq (by decide) (by exact Int.le_refl _)) ?_
    exact Qaf (fun _ => Qac ⟨hs.mono (by decide), Qd4 (by decide)⟩) fun h => absurd h (by decide)
   ·refine Qan (Q := fun a y => True) Qlp h0 rfl hs (by decide) fun y r' hq hs => ?_
    exact Qaf (fun _ => Qac ⟨hs.mono (by decide), Qd4 (by decide)⟩) fun h => absurd h (by decide)
   ·exact Qaf (fun h => absurd h (by decide)) fun _ => hk
 obtain ⟨hx1, hx2⟩ := Bool.and_eq_true_iff.1 hx
 obtain ⟨hx2, hx3⟩ := Bool.and_eq_true_iff.1 hx2
 obtain ⟨hx3, hx4⟩ := Bool.and_eq_true_iff.1 hx3
 exact key x.1 x.2.1 x.2.2.1 (Qat.1 hx1) hx2 (of_decide_eq_true hx3) (of_decide_eq_true hx4)
noncomputable def Qda := Classical.choose Qid
theorem Qrj (x : In_al) (hx : (fun x : In_al => rdB 3 x.1 && (houOk x.2.1 && (decide (0 <= x.2.2.1) && decide (x.2.2.1 < (List.length x.2.1.2.2 : Int))))) x = true) : (fun (x : In_al) (v : Out_al) => Step 3 x.1 v.2.1 /\ NextQ x.2.2.1 v.1) x (Qda x) := (Classical.choose_spec Qid x hx).2
theorem s_al : C_al (fun x => rdB 3 x.1 && (houOk x.2.1 && (decide (0 <= x.2.2.1) && decide (x.2.2.1 < (List.length x.2.1.2.2 : Int))))) Qda := S_al s_ag s_a1 s_ak fun x hx => (Classical.choose_spec Qid x hx).1
theorem Qrk (r : MRd) (a : MHou × Int × Unit) (h : RdOk 3 r) (ha : (fun a : MHou × Int × Unit => houOk a.1 && (decide (0 <= a.2.1) && decide (a.2.1 < (List.length a.1.2.2 : Int)))) a = true) : Step 3 r (Qda (r, a)).2.1 /\ (fun (a : MHou × Int × Unit) (y : MReq) => NextQ a.2.1 y) a (Qda (r, a)).1 := Qrj (r, a) (Bool.and_eq_true_iff.2 ⟨Qat.2 h, ha⟩)
theorem Qp3 {u k b t n : Int} {v : MDec} (hu : 1 <= u /\ u <= 6) (hk : 4 <= k /\ k <= 12) (hb : 0 <= b /\ b <= 9) : ReqD (u, (form8 (0, k, b, t, n, v, [])).2) := by
 unfold form8
 have z : (0 : Int) <= 0 /\ (0 : Int) <= 9 := by decide
 have h1 : 1 <= k /\ k <= 12 := by omega
 have h3 : ∀ n : Int, k = 3 -> 0 <= n /\ n <= 10000 := fun n h => by omega
 dsimp only
 repeat' split
 all_goals first | exact Qed hu z (Nat.zero_le _) h1 (h3 _) | exact Qed hu hb (Nat.zero_le _) h1 (h3 _)
theorem Qnb {y : Int} (h : PickQ ((9 : Int), ()) y) : 4 <= w64 ((4 : Int) + y) /\ w64 ((4 : Int) + y) <= 12 := by
 have h1 : 0 <= y := h.1
 have h2 : y < 9 := h.2 (show (1 : Int) <= 9 by decide)
 rw [Qam (by omega) (by omega)]; omega
theorem Qow {y : Int} {n : Nat} (hn : n <= 4) (h : PickQ (w64 ((n : Int) + (1 : Int)), ()) y) : 0 <= y /\ y <= 9 := by
 have h1 : 0 <= y := h.1
 have e : w64 ((n : Int) + (1 : Int)) = (n : Int) + 1 := Qam (by omega) (by omega)
 rw [e] at h
 have h2 : y < (n : Int) + 1 := h.2 (show (1 : Int) <= (n : Int) + 1 by omega)
 omega
theorem Qp4 {h : MHou} {y : Int} (g3 : h.2.2.length <= 4) (hc : decide ((List.length h.2.2 : Int) = (0 : Int)) = false) (hq : PickQ ((List.length h.2.2 : Int), ()) y) : 0 <= y /\ y <= 9 := by
 have h1 : 0 <= y := hq.1
 have h2 := of_decide_eq_false hc
 have h3 : y < (List.length h.2.2 : Int) := hq.2 (show (1 : Int) <= (List.length h.2.2 : Int) by omega)
 omega
theorem Quj {h : MHou} {y : Int} (hh : houOk h = true) (hc : decide ((List.length h.2.2 : Int) = (0 : Int)) = false) (hq : PickQ ((List.length h.2.2 : Int), ()) y) : (fun a : MHou × Int × Unit => houOk a.1 && (decide (0 <= a.2.1) && decide (a.2.1 < (List.length a.1.2.2 : Int)))) (h, y, ()) = true := by
 have h1 : 0 <= y := hq.1
 have h2 := of_decide_eq_false hc
 have h3 : y < (List.length h.2.2 : Int) := hq.2 (show (1 : Int) <= (List.length h.2.2 : Int) by omega)
 show (houOk h && (decide (0 <= y) && decide (y < (List.length h.2.2 : Int)))) = true
 rw [hh, decide_eq_true h1, decide_eq_true h3]; rfl
theorem Qjd : ∃ fn : In_ao -> Out_ao, ∀ x, (fun x : In_ao => rdB 90 x.1 && houOk x.2.1) x = true -> (∃ k, E_ao Qaa (fun x => rdB 1 x.1) Qa2 (fun x => rdB 76 x.1) (fun x => (spcNow x.1, ())) (fun x => decide (List.length x.1 <= 4294967296)) (fun x => (form8 x.1, ())) Qda (fun x => rdB 3 x.1 && (houOk x.2.1 && (decide (0 <= x.2.2.1) && decide (x.2.2.1 < (List.length x.2.1.2.2 : Int))))) Qdl (fun x => rdB 1 x.1 && decide (1 <= List.length x.2.1 /\ List.length x.2.1 <= 5)) k x = some (fn x)) /\ (fun (x : In_ao) (v : Out_ao) => Step 90 x.1 v.2.1 /\ ReqD v.1) x (fn x) := by
 refine Qaz (fun k x => E_ao Qaa (fun x => rdB 1 x.1) Qa2 (fun x => rdB 76 x.1) (fun x => (spcNow x.1, ())) (fun x => decide (List.length x.1 <= 4294967296)) (fun x => (form8 x.1, ())) Qda (fun x => rdB 3 x.1 && (houOk x.2.1 && (decide (0 <= x.2.2.1) && decide (x.2.2.1 < (List.length x.2.1.2.2 : Int))))) Qdl (fun x => rdB 1 x.1 && decide (1 <= List.length x.2.1 /\ List.length x.2.1 <= 5)) k x) (fun x : In_ao => rdB 90 x.1 && houOk x.2.1) (fun (x : In_ao) (v : Out_ao) => Step 90 x.1 v.2.1 /\ ReqD v.1) ((1, 1, 0, 0, 0, (0, 0), []), (([], 0), ())) fun x hx => ?_
 have key : ∀ (r0 : MRd) (h : MHou), RdOk 90 r0 -> houOk h = true -> Gets (E_ao Qaa (fun x => rdB 1 x.1) Qa2 (fun x => rdB 76 x.1) (fun x => (spcNow x.1, ())) (fun x => decide (List.length x.1 <= 4294967296)) (fun x => (form8 x.1, ())) Qda (fun x => rdB 3 x.1 && (houOk x.2.1 && (decide (0 <= x.2.2.1) && decide (x.2.2.1 < (List.length x.2.1.2.2 : Int))))) Qdl (fun x => rdB 1 x.1 && decide (1 <= List.length x.2.1 /\ List.length x.2.1 <= 5)) 0 (r0, h, ())) (fun v => Step 90 r0 v.2.1 /\ ReqD v.1) := by
  intro r0 h h0 hh
  obtain ⟨g1, g2, g3, g4⟩ := Qa1.1 hh
  have g1 := (Qdx.1 g1).1
  have hsp := (Qbo.1 g2).1
  have hnow : decide (List.length h.2.1 <= 4294967296) = true := decide_eq_true (by omega)
  have hwho : decide (1 <= List.length h.1 /\ List.length h.1 <= 5) = true := decide_eq_true g1
  have hs := Step.refl r0
  rw [ev_ao 0 r0 h]
  repeat' first
   | with_reducible refine Qan (Q := PickQ) Qaj h0 rfl (by assumption) (by decide) fun y r' hq hs => ?_
   | with_reducible refine Qan (Q := fun a y => 1 <= List.length y /\ List.length y <= 5) Qdy h0 rfl (by assumption) (by decide) fun y r' hq hs => ?_
   | with_reducible refine Qey (pA := fun a : List Int × Int × Unit => decide (1 <= List.length a.1 /\ List.length a.1 <= 5)) (Q := fun a y => 1 <= y /\ y <= 5) Qta h0 rfl hwho (by assumption) (by decide) fun y r' hq hs => ?_
   | with_reducible refine Qao hnow ?_
   | refine Qey (pA := fun a : MHou × Int × Unit => houOk a.1 && (decide (0 <= a.2.1) && decide (a.2.1 < (List.length a.1.2.2 : Int)))) (Q := fun a y => NextQ a.2.1 y) Qrk h0 rfl (Quj hh (by assumption) (by assumption)) (by assumption) (by decide) fun y r' hq hs => ?_
   | refine Qae (Qcd (by assumption) (by decide) (by exact Int.le_refl _)) ?_
   | with_reducible refine Qcb ?_
   | with_reducible refine Qac ⟨Step.mono (by assumption) (by decide), ?_⟩
   | with_reducible refine Qaf (fun hc => ?_) fun hc => ?_
   | exact Qed (Qgf (by assumption)) ⟨by decide, by decide⟩ (And.right (by assumption)) ⟨by decide, by decide⟩ (fun h => absurd h (by decide))
   | exact Qed (Qhg (by assumption)) ⟨by decide, by decide⟩ (And.right (by assumption)) ⟨by decide, by decide⟩ (fun h => absurd h (by decide))
   | exact Qed (Qgf (by assumption)) ⟨by decide, by decide⟩ (Nat.zero_le _) ⟨by decide, by decide⟩ (fun h => absurd h (by decide))
   | exact Qed (Qhg (by assumption)) ⟨by decide, by decide⟩ (Nat.zero_le _) ⟨by decide, by decide⟩ (fun h => absurd h (by decide))
   | exact Qed (Qgf (by assumption)) ⟨by decide, by decide⟩ (Nat.zero_le _) ⟨by decide, by decide⟩ (fun _ => Qp0 _)
   | exact Qed (Qhg (by assumption)) ⟨by decide, by decide⟩ (Nat.zero_le _) ⟨by decide, by decide⟩ (fun _ => Qp0 _)
   | exact Qm6 (Qgf (by assumption)) (Qp4 g3 (by assumption) (by assumption)) (by assumption)
   | exact Qm6 (Qhg (by assumption)) (Qp4 g3 (by assumption) (by assumption)) (by assumption)
   | exact Qp3 (Qgf (by assumption)) (Qnb (by assumption)) (Qow g3 (by assumption))
   | exact Qp3 (Qhg (by assumption)) (Qnb (by assumption)) (Qow g3 (by assumption))
 obtain ⟨hx1, hx2⟩ := Bool.and_eq_true_iff.1 hx
 exact ⟨0, key x.1 x.2.1 (Qat.1 hx1) hx2⟩
noncomputable def Qay := Classical.choose Qjd
theorem Qtb (x : In_ao) (hx : (fun x : In_ao => rdB 90 x.1 && houOk x.2.1) x = true) : (fun (x : In_ao) (v : Out_ao) => Step 90 x.1 v.2.1 /\ ReqD v.1) x (Qay x) := (Classical.choose_spec Qjd x hx).2
theorem s_ao : C_ao (fun x => rdB 90 x.1 && houOk x.2.1) Qay := S_ao s_a1 s_a8 s_a9 s_aa s_al s_an fun x hx => (Classical.choose_spec Qjd x hx).1
theorem Qnc (r : MRd) (a : MHou × Unit) (h : RdOk 90 r) (ha : (fun a : MHou × Unit => houOk a.1) a = true) : Step 90 r (Qay (r, a)).2.1 /\ (fun (a : MHou × Unit) (y : MReq) => ReqD y) a (Qay (r, a)).1 := Qtb (r, a) (Bool.and_eq_true_iff.2 ⟨Qat.2 h, ha⟩)
theorem Qhb : ∃ fn : In_bx -> Out_bx, ∀ x, (fun x : In_bx => rdB 4000 x.1) x = true -> (∃ k, E_bx Qaw (fun x => rdB 1 x.1) (fun x => (houNew x.1, ())) (fun x => decide (List.length x.1 <= 4294967296)) Qaa (fun x => rdB 1 x.1) Qay (fun x => rdB 90 x.1 && houOk x.2.1) (fun x => (x.1, ())) (fun x => houSm x.1) (fun x => ((houGo x.1 x.2.1).1, (houGo x.1 x.2.1).2, ())) (fun x => goPre x.1 x.2.1) Qbx (fun x => audSm x.1 && smA x.2.1.2.2.2.2.2.2) k x = some (fn x)) /\ (fun (x : In_bx) (v : Out_bx) => Step 4000 x.1 v.2.2.1 /\ houOk v.1 = true) x (fn x) := by
 refine Qaz (fun k x => E_bx Qaw (fun x => rdB 1 x.1) (fun x => (houNew x.1, ())) (fun x => decide (List.length x.1 <= 4294967296)) Qaa (fun x => rdB 1 x.1) Qay (fun x => rdB 90 x.1 && houOk x.2.1) (fun x => (x.1, ())) (fun x => houSm x.1) (fun x => ((houGo x.1 x.2.1).1, (houGo x.1 x.2.1).2, ())) (fun x => goPre x.1 x.2.1) Qbx (fun x => audSm x.1 && smA x.2.1.2.2.2.2.2.2) k x) (fun x : In_bx => rdB 4000 x.1) (fun (x : In_bx) (v : Out_bx) => Step 4000 x.1 v.2.2.1 /\ houOk v.1 = true) (hou0, ([], (([], 0), ()))) fun x hx => ?_
 have key : ∀ (r0 : MRd), RdOk 4000 r0 -> WithFuel (fun k => E_bx Qaw (fun x => rdB 1 x.1) (fun x => (houNew x.1, ())) (fun x => decide (List.length x.1 <= 4294967296)) Qaa (fun x => rdB 1 x.1) Qay (fun x => rdB 90 x.1 && houOk x.2.1) (fun x => (x.1, ())) (fun x => houSm x.1) (fun x => ((houGo x.1 x.2.1).1, (houGo x.1 x.2.1).2, ())) (fun x => goPre x.1 x.2.1) Qbx (fun x => audSm x.1 && smA x.2.1.2.2.2.2.2.2) k (r0, ())) (fun v => Step 4000 r0 v.2.2.1 /\ houOk v.1 = true) := by
  intro r0 h0
  suffices hl : ∀ (n : Nat) (h : MHou) (r : MRd), n <= 40 -> houOk h = true -> Step 3 r0 r -> WithFuel (fun k => r_bx Qaw (fun x => rdB 1 x.1) (fun x => (houNew x.1, ())) (fun x => decide (List.length x.1 <= 4294967296)) Qaa (fun x => rdB 1 x.1) Qay (fun x => rdB 90 x.1 && houOk x.2.1) (fun x => (x.1, ())) (fun x => houSm x.1) (fun x => ((houGo x.1 x.2.1).1, (houGo x.1 x.2.1).2, ())) (fun x => goPre x.1 x.2.1) Qbx (fun x => audSm x.1 && smA x.2.1.2.2.2.2.2.2) (r0, ()) k pt2 (h0_bx r0 (n : Int) [] [] [] h r [])) (fun v => Step 4000 r0 v.2.2.1 /\ houOk v.1 = true) by
   have hg : Gets (some ()) (fun _ => ∃ (n : Nat) (h : MHou) (r : MRd), n <= 40 /\ houOk h = true /\ Step 3 r0 r /\ ∀ k, Gets (r_bx Qaw (fun x => rdB 1 x.1) (fun x => (houNew x.1, ())) (fun x => decide (List.length x.1 <= 4294967296)) Qaa (fun x => rdB 1 x.1) Qay (fun x => rdB 90 x.1 && houOk x.2.1) (fun x => (x.1, ())) (fun x => houSm x.1) (fun x => ((houGo x.1 x.2.1).1, (houGo x.1 x.2.1).2, ())) (fun x => goPre x.1 x.2.1) Qbx (fun x => audSm x.1 && smA x.2.1.2.2.2.2.2.2) (r0, ()) k pt2 (h0_bx r0 (n : Int) [] [] [] h r [])) (fun v => Step 4000 r0 v.2.2.1 /\ houOk v.1 = true) -> Gets (E_bx Qaw (fun x => rdB 1 x.1) (fun x => (houNew x.1, ())) (fun x => decide (List.length x.1 <= 4294967296)) Qaa (fun x => rdB 1 x.1) Qay (fun x => rdB 90 x.1 && houOk x.2.1) (fun x => (x.1, ())) (fun x => houSm x.1) (fun x => ((houGo x.1 x.2.1).1, (houGo x.1 x.2.1).2, ())) (fun x => goPre x.1 x.2.1) Qbx (fun x => audSm x.1 && smA x.2.1.2.2.2.2.2.2) k (r0, ())) (fun v => Step 4000 r0 v.2.2.1 /\ houOk v.1 = true)) := by
    refine Qac ?_
    obtain ⟨e1, e2⟩ := Qpj r0 () (h0.mono (by decide))
    have e2 : rolesOk (Qaw (r0, ())).1 = true := e2
    have hs1 : Step 1 r0 (Qaw (r0, ())).2.1 := e1
    obtain ⟨e3, e4⟩ := Qaj (Qaw (r0, ())).2.1 ((40 : Int), ()) (hs1.ok h0 (by decide))
    have hs2 := hs1.trans e3
    obtain ⟨e5, e6⟩ := Qaj (Qaa ((Qaw (r0, ())).2.1, ((40 : Int), ()))).2.1 ((5 : Int), ()) (hs2.ok h0 (by decide))
    have hs3 := hs2.trans e5
    obtain ⟨n, hn, hne⟩ := Qsv e6 e4
    have hro : houOk ((Qaw (r0, ())).1, [], []) = true := Qss e2
    have hnew : houNew (Qaw (r0, ())).1 = ((Qaw (r0, ())).1, [], []) := by unfold houNew; rw [e2]; rfl
    refine ⟨n, _, _, hn, hro, hs3, fun k hk => ?_⟩
    rw [ev_bx k r0]
    refine Qao (Qat.2 (h0.mono (by decide))) ?_
    refine Qao (decide_eq_true (show List.length (Qaw (r0, ())).1 <= 4294967296 by have := (Qdx.1 e2).1; omega)) ?_
    refine Qao (Qat.2 (hs1.ok h0 (by decide))) ?_
    refine Qao (Qat.2 (hs2.ok h0 (by decide))) ?_
    refine Qae (Qcd e6 (by decide) (by exact Int.le_refl _)) ?_
    dsimp only
    rw [hnew, hne]
    exact hk
   obtain ⟨_, _, n, h, r, h1, h2, h3, h4⟩ := hg
   obtain ⟨k, hk⟩ := hl n h r h1 h2 h3
   exact ⟨k, h4 k hk⟩
  intro n h r hn hh hs
  have := Qdi (σ := MHou × MRd × List MAud) n (fun k i s => r_bx Qaw (fun x => rdB 1 x.1) (fun x => (houNew x.1, ())) (fun x => decide (List.length x.1 <= 4294967296)) Qaa (fun x => rdB 1 x.1) Qay (fun x => rdB 90 x.1 && houOk x.2.1) (fun x => (x.1, ())) (fun x => houSm x.1) (fun x => ((houGo x.1 x.2.1).1, (houGo x.1 x.2.1).2, ())) (fun x => goPre x.1 x.2.1) Qbx (fun x => audSm x.1 && smA x.2.1.2.2.2.2.2.2) (r0, ()) k pt2 (h0_bx r0 ((n - i : Nat) : Int) [] [] [] s.1 s.2.1 s.2.2)) (fun v => Step 4000 r0 v.2.2.1 /\ houOk v.1 = true) (fun i s => houOk s.1 = true /\ Step (3 + 90 * i) r0 s.2.1 /\ List.length s.2.2 <= i /\ ∀ a ∈ s.2.2, smA a.1.2.2.2.2.2.2 = true) (fun s hi => ?_) (fun i s hlt hi next => ?_) n 0 (h, r, []) (by omega) ⟨hh, hs, Nat.le_refl _, fun a ha => by cases ha⟩
  ·exact this
  ·obtain ⟨i1, i2, i3, i4⟩ := hi
   refine ⟨1, ?_⟩
   show Gets (r_bx Qaw (fun x => rdB 1 x.1) (fun x => (houNew x.1, ())) (fun x => decide (List.length x.1 <= 4294967296)) Qaa (fun x => rdB 1 x.1) Qay (fun x => rdB 90 x.1 && houOk x.2.1) (fun x => (x.1, ())) (fun x => houSm x.1) (fun x => ((houGo x.1 x.2.1).1, (houGo x.1 x.2.1).2, ())) (fun x => goPre x.1 x.2.1) Qbx (fun x => audSm x.1 && smA x.2.1.2.2.2.2.2.2) (r0, ()) (0 + 1) pt2 (h0_bx r0 ((n - n : Nat) : Int) [] [] [] s.1 s.2.1 s.2.2)) _
   rw [Nat.sub_self, rd0_bx]
   exact Qac ⟨i2.mono (by omega), i1⟩
  ·obtain ⟨i1, i2, i3, i4⟩ := hi
   obtain ⟨h, r, l⟩ := s
   have i1 : houOk h = true := i1
   have i2 : Step (3 + 90 * i) r0 r := i2
   have i3 : List.length l <= i := i3
   obtain ⟨q1, q2⟩ := Qnc r (h, ()) (i2.ok h0 (by omega)) i1
   have q2 : ReqD (Qay (r, (h, ()))).1 := q2
   have hs2 := i2.trans q1
   have hsm := Qex i1
   have htests : smA (Qay (r, (h, ()))).1.2.2.2.2.2.2 = true := decide_eq_true (Nat.le_trans q2.2.2.1 (by decide))
   have hgo : goPre h (Qay (r, (h, ()))).1 = true := Qgv.2 ⟨Qd3.2 ⟨hsm, (Qa1.1 i1).2.2.1⟩, htests, q2.1.1, q2.2.1.1⟩
   have hok2 := Qsu i1 q2.g
   have haud : (audSm l && smA (Qay (r, (h, ()))).1.2.2.2.2.2.2) = true := Bool.and_eq_true_iff.2 ⟨Qna.2 ⟨by omega, i4⟩, htests⟩
   have hput := Qs8 (l, (Qay (r, (h, ()))).1, ()) haud
   have hw : w64 (((n - i : Nat) : Int) - 1) = ((n - (i + 1) : Nat) : Int) := by rw [Qam (by omega) (by omega)]; omega
   cases hc : decide ((houGo h (Qay (r, (h, ()))).1).2 = 1)
   ·obtain ⟨k, hk⟩ := next (h, (Qay (r, (h, ()))).2.1, l) ⟨i1, hs2.mono (by omega), Nat.le_succ_of_le i3, i4⟩
    refine ⟨k + 1, ?_⟩
    show Gets (r_bx Qaw (fun x => rdB 1 x.1) (fun x => (houNew x.1, ())) (fun x => decide (List.length x.1 <= 4294967296)) Qaa (fun x => rdB 1 x.1) Qay (fun x => rdB 90 x.1 && houOk x.2.1) (fun x => (x.1, ())) (fun x => houSm x.1) (fun x => ((houGo x.1 x.2.1).1, (houGo x.1 x.2.1).2, ())) (fun x => goPre x.1 x.2.1) Qbx (fun x => audSm x.1 && smA x.2.1.2.2.2.2.2.2) (r0, ()) (k + 1) pt2 (h0_bx r0 ((n - i : Nat) : Int) [] [] [] h r l)) _
    rw [rd0_bx, hw, decide_eq_true (show (0 : Int) < ((n - i : Nat) : Int) by omega), cond_true]
    refine Qao (Bool.and_eq_true_iff.2 ⟨Qat.2 (i2.ok h0 (by omega)), i1⟩) (Qao hsm (Qao hgo ?_))
    dsimp only
    rw [hc]
    exact hk
   ·obtain ⟨k, hk⟩ := next ((houGo h (Qay (r, (h, ()))).1).1, (Qay (r, (h, ()))).2.1, (Qbx (l, (Qay (r, (h, ()))).1, ())).1) ⟨hok2, hs2.mono (by omega), by have := hput.1; dsimp only at this ⊢; omega, hput.2⟩
    refine ⟨k + 1, ?_⟩
    show Gets (r_bx Qaw (fun x => rdB 1 x.1) (fun x => (houNew x.1, ())) (fun x => decide (List.length x.1 <= 4294967296)) Qaa (fun x => rdB 1 x.1) Qay (fun x => rdB 90 x.1 && houOk x.2.1) (fun x => (x.1, ())) (fun x => houSm x.1) (fun x => ((houGo x.1 x.2.1).1, (houGo x.1 x.2.1).2, ())) (fun x => goPre x.1 x.2.1) Qbx (fun x => audSm x.1 && smA x.2.1.2.2.2.2.2.2) (r0, ()) (k + 1) pt2 (h0_bx r0 ((n - i : Nat) : Int) [] [] [] h r l)) _
    rw [rd0_bx, hw, decide_eq_true (show (0 : Int) < ((n - i : Nat) : Int) by omega), cond_true]
    refine Qao (Bool.and_eq_true_iff.2 ⟨Qat.2 (i2.ok h0 (by omega)), i1⟩) (Qao hsm (Qao hgo ?_))
    dsimp only
    rw [hc, cond_true]
    exact Qao haud hk
 exact key x.1 (Qat.1 hx)
noncomputable def Qc2 := Classical.choose Qhb
theorem Qpk (x : In_bx) (hx : (fun x : In_bx => rdB 4000 x.1) x = true) : (fun (x : In_bx) (v : Out_bx) => Step 4000 x.1 v.2.2.1 /\ houOk v.1 = true) x (Qc2 x) := (Classical.choose_spec Qhb x hx).2
theorem s_bx : C_bx (fun x => rdB 4000 x.1) Qc2 := S_bx s_a2 s_a4 s_a1 s_ao s_as s_bl s_bw fun x hx => (Classical.choose_spec Qhb x hx).1
theorem Qpl (r : MRd) (a : Unit) (h : RdOk 4000 r) : Step 4000 r (Qc2 (r, a)).2.2.1 /\ (fun (a : Unit) (y : MHou) => houOk y = true) a (Qc2 (r, a)).1 := Qpk (r, a) (Qat.2 h)
theorem Qgi : ∃ fn : In_by -> Out_by, ∀ x, (fun x : In_by => rdB 180 x.1 && houOk x.2.1) x = true -> (∃ k, E_by Qay (fun x => rdB 90 x.1 && houOk x.2.1) Qaa (fun x => rdB 1 x.1) Qbl (fun x => rdB 7 x.1) Qa2 (fun x => rdB 76 x.1) k x = some (fn x)) /\ (fun (x : In_by) (v : Out_by) => Step 180 x.1 v.2.1 /\ List.length v.1.2.2.2.2.2.2 <= 5) x (fn x) := by
 refine Qaz (fun k x => E_by Qay (fun x => rdB 90 x.1 && houOk x.2.1) Qaa (fun x => rdB 1 x.1) Qbl (fun x => rdB 7 x.1) Qa2 (fun x => rdB 76 x.1) k x) (fun x : In_by => rdB 180 x.1 && houOk x.2.1) (fun (x : In_by) (v : Out_by) => Step 180 x.1 v.2.1 /\ List.length v.1.2.2.2.2.2.2 <= 5) ((1, 1, 0, 0, 0, (0, 0), []), (([], 0), ())) fun x hx => ?_
 have key : ∀ (r0 : MRd) (h : MHou) (n : Int), RdOk 180 r0 -> houOk h = true -> Gets (E_by Qay (fun x => rdB 90 x.1 && houOk x.2.1) Qaa (fun x => rdB 1 x.1) Qbl (fun x => rdB 7 x.1) Qa2 (fun x => rdB 76 x.1) 0 (r0, h, n, ())) (fun v => Step 180 r0 v.2.1 /\ List.length v.1.2.2.2.2.2.2 <= 5) := by
  intro r0 h n h0 hh
  rw [ev_by 0 r0 h n]
  refine Qey (pA := fun a : MHou × Unit => houOk a.1) (Q := fun a y => ReqD y) Qnc h0 rfl hh (Step.refl r0) (by decide) fun q r' hq hs => ?_
  have hq5 : List.length q.2.2.2.2.2.2 <= 5 := hq.2.2.1
  clear hq
  repeat' first
   | with_reducible refine Qan (Q := PickQ) Qaj h0 rfl (by assumption) (by decide) fun y r' hq hs => ?_
   | with_reducible refine Qan (Q := fun a y => True) Qgt h0 rfl (by assumption) (by decide) fun y r' hq hs => ?_
   | with_reducible refine Qan (Q := fun a y => 1 <= List.length y /\ List.length y <= 5) Qdy h0 rfl (by assumption) (by decide) fun y r' hq hs => ?_
   | refine Qae (Qcd (by assumption) (by decide) (by exact Int.le_refl _)) ?_
   | with_reducible refine Qcb ?_
   | exact Qac ⟨Step.mono (by assumption) (by decide), hq5⟩
   | exact Qac ⟨Step.mono (by assumption) (by decide), And.right (by assumption)⟩
   | with_reducible refine Qaf (fun hc => ?_) fun hc => ?_
 obtain ⟨hx1, hx2⟩ := Bool.and_eq_true_iff.1 hx
 exact ⟨0, key x.1 x.2.1 x.2.2.1 (Qat.1 hx1) hx2⟩
noncomputable def Qcq := Classical.choose Qgi
theorem Qox (x : In_by) (hx : (fun x : In_by => rdB 180 x.1 && houOk x.2.1) x = true) : (fun (x : In_by) (v : Out_by) => Step 180 x.1 v.2.1 /\ List.length v.1.2.2.2.2.2.2 <= 5) x (Qcq x) := (Classical.choose_spec Qgi x hx).2
theorem s_by : C_by (fun x => rdB 180 x.1 && houOk x.2.1) Qcq := S_by s_ao s_a1 s_a6 s_a8 fun x hx => (Classical.choose_spec Qgi x hx).1
theorem Qoy (r : MRd) (a : MHou × Int × Unit) (h : RdOk 180 r) (ha : (fun a : MHou × Int × Unit => houOk a.1) a = true) : Step 180 r (Qcq (r, a)).2.1 /\ (fun (a : MHou × Int × Unit) (y : MReq) => List.length y.2.2.2.2.2.2 <= 5) a (Qcq (r, a)).1 := Qox (r, a) (Bool.and_eq_true_iff.2 ⟨Qat.2 h, ha⟩)
end Go.Proofs.YtddpemilmeijfaaGreat

set_option linter.unusedVariables false
set_option linter.unusedSimpArgs false
namespace Go.Proofs.YtddpemilmeijfaaGreat
open Go.Vm
theorem Qvv {n : Nat} (h : decide ((0 : Int) < (n : Int)) = true) : (bif decide ((0 : Int) <= (1 : Int)) then decide ((1 : Int) <= (n : Int)) else false) = true := by
 have := of_decide_eq_true h
 exact decide_eq_true (show (1 : Int) <= (n : Int) by omega)
theorem Qvd {n : Nat} (h : decide ((0 : Int) < (n : Int)) = true) : (bif decide ((0 : Int) <= (0 : Int)) then decide ((0 : Int) < (n : Int)) else false) = true := h
theorem _root_.List.length_drop_le' {α : Type} (l : List α) (i : Nat) : (l.drop i).length <= l.length := by rw [List.length_drop]; omega
theorem Qhc : ∃ fn : In_c1 -> Out_c1, ∀ x, (fun x : In_c1 => rdB 50 x.1 && batOk x.2.1) x = true -> (∃ k, E_c1 (fun x => (x.1, ())) (fun x => smB x.1) Qaa (fun x => rdB 1 x.1) (fun x => (batMark x.1, ())) (fun x => smB x.1) Qdj (fun x => rdB 40 x.1) k x = some (fn x)) /\ (fun (x : In_c1) (v : Out_c1) => Step 50 x.1 v.2.1 /\ BatDr v.1) x (fn x) := by
 refine Qaz (fun k x => E_c1 (fun x => (x.1, ())) (fun x => smB x.1) Qaa (fun x => rdB 1 x.1) (fun x => (batMark x.1, ())) (fun x => smB x.1) Qdj (fun x => rdB 40 x.1) k x) (fun x : In_c1 => rdB 50 x.1 && batOk x.2.1) (fun (x : In_c1) (v : Out_c1) => Step 50 x.1 v.2.1 /\ BatDr v.1) (batNone, (([], 0), ())) fun x hx => ?_
 have key : ∀ (r0 : MRd) (b : MBat), RdOk 50 r0 -> batOk b = true -> Gets (E_c1 (fun x => (x.1, ())) (fun x => smB x.1) Qaa (fun x => rdB 1 x.1) (fun x => (batMark x.1, ())) (fun x => smB x.1) Qdj (fun x => rdB 40 x.1) 0 (r0, b, ())) (fun v => Step 50 r0 v.2.1 /\ BatDr v.1) := by
  intro r0 b h0 hb
  obtain ⟨hT, hS, hD⟩ := Qok hb
  have hsm : smB b = true := Qi4 hb
  have hs := Step.refl r0
  have hS7 : List.length b.2.2.2.2.1 <= 7 := by omega
  have hD4 : List.length b.2.2.2.2.2 <= 4 := by omega
  have hfS : ∀ z, fitL b.2.2.2.2.1 [z] = true := fun z => Qau (by show List.length b.2.2.2.2.1 + 1 <= _; omega)
  have hfD : ∀ z, fitL b.2.2.2.2.2 [z] = true := fun z => Qau (by show List.length b.2.2.2.2.2 + 1 <= _; omega)
  rw [ev_c1 0 r0 b]
  refine Qao hsm ?_
  dsimp only
  repeat' first
   | with_reducible refine Qan (Q := PickQ) Qaj h0 rfl (by assumption) (by decide) fun y r' hq hs => ?_
   | with_reducible refine Qan (Q := fun a y => List.length y.2.2.2.2 <= 3 /\ tS y) Qrd h0 rfl (by assumption) (by decide) fun y r' hq hs => ?_
   | with_reducible refine Qao hsm ?_
   | refine Qae (Qcd (by assumption) (by decide) (by exact Int.le_refl _)) ?_
   | refine Qae (hfS _) ?_
   | refine Qae (hfD _) ?_
   | with_reducible refine Qcb ?_
   | with_reducible refine Qac ⟨Step.mono (by assumption) (by decide), ?_⟩
   | exact ⟨hT, hS7, hD4⟩
   | exact ⟨TstsDr.nil, hS7, hD4⟩
   | exact ⟨TstsDr.set hT (by assumption), hS7, hD4⟩
   | exact ⟨hT, Qol hS, hD4⟩
   | exact ⟨hT, hS7, Qol hD⟩
   | exact ⟨hT, Nat.le_trans (List.length_drop_le' _ _) hS7, hD4⟩
   | (refine Qae (Qvv (by assumption)) ?_)
   | (refine Qae (Qvd (by assumption)) ?_)
   | with_reducible refine Qaf (fun hc => ?_) fun hc => ?_
 obtain ⟨hx1, hx2⟩ := Bool.and_eq_true_iff.1 hx
 exact ⟨0, key x.1 x.2.1 (Qat.1 hx1) hx2⟩
noncomputable def Qc3 := Classical.choose Qhc
theorem Qpm (x : In_c1) (hx : (fun x : In_c1 => rdB 50 x.1 && batOk x.2.1) x = true) : (fun (x : In_c1) (v : Out_c1) => Step 50 x.1 v.2.1 /\ BatDr v.1) x (Qc3 x) := (Classical.choose_spec Qhc x hx).2
theorem s_c1 : C_c1 (fun x => rdB 50 x.1 && batOk x.2.1) Qc3 := S_c1 s_ar s_a1 s_ai s_c0 fun x hx => (Classical.choose_spec Qhc x hx).1
theorem Qpn (r : MRd) (a : MBat × Unit) (h : RdOk 50 r) (ha : (fun a : MBat × Unit => batOk a.1) a = true) : Step 50 r (Qc3 (r, a)).2.1 /\ (fun (a : MBat × Unit) (y : MBat) => BatDr y) a (Qc3 (r, a)).1 := Qpm (r, a) (Bool.and_eq_true_iff.2 ⟨Qat.2 h, ha⟩)
end Go.Proofs.YtddpemilmeijfaaGreat

set_option linter.unusedVariables false
set_option linter.unusedSimpArgs false
namespace Go.Proofs.YtddpemilmeijfaaGreat
open Go.Vm
theorem Qp5 {S : Sh} {xs : List S.den} {i : Int} (h0 : 0 <= i) (h1 : i < (xs.length : Int)) : rdL (e := S) xs i ∈ xs := by
 obtain ⟨n, rfl⟩ : ∃ n : Nat, i = (n : Int) := ⟨i.toNat, by omega⟩
 have hn : n < xs.length := by omega
 rw [Qad (List.drop_eq_getElem_cons hn)]
 exact List.getElem_mem hn
theorem Qvw {l : List MSpc} (h : SpQ l) : smS l = true := Qbw.2 ⟨by have := h.1; omega, fun s hs => by have := h.2 s hs; omega⟩
theorem Qpo {h : MHou} {l : List Int} (hk : houSm h = true) (hl : l.length <= h.1.length) : houSm (l, h.2) = true := by
 obtain ⟨h1, h2, h3, h4⟩ := Qa5.1 hk
 exact Qa5.2 ⟨Nat.le_trans hl h1, h2, h3, h4⟩
theorem Qpp {h : MHou} {l : List MSpc} (hk : houSm h = true) (hl : smS l = true) : houSm (h.1, l, h.2.2) = true := by
 obtain ⟨h1, h2, h3, h4⟩ := Qa5.1 hk
 exact Qa5.2 ⟨h1, hl, h3, h4⟩
theorem Qtc {h : MHou} {b : MBat} (hk : houOk h = true) (hb : smB b = true) : houSm (h.1, h.2.1, List.append h.2.2 [b]) = true := by
 obtain ⟨h1, h2, h3, h4⟩ := Qa5.1 (Qex hk)
 have hl := (Qa1.1 hk).2.2.1
 refine Qa5.2 ⟨h1, h2, ?_, fun x hx => ?_⟩
 ·show (h.2.2 ++ [b]).length <= _
  rw [List.length_append]; show h.2.2.length + 1 <= _; omega
 ·have hx : x ∈ h.2.2 ++ [b] := hx
  rcases List.mem_append.1 hx with hx | hx
  ·exact h4 x hx
  ·rw [List.mem_singleton.1 hx]; exact hb
theorem Qtd {h : MHou} {i : Nat} {b : MBat} (hk : houSm h = true) (hb : smB b = true) : houSm (h.1, h.2.1, h.2.2.set i b) = true := by
 obtain ⟨h1, h2, h3, h4⟩ := Qa5.1 hk
 refine Qa5.2 ⟨h1, h2, by show (h.2.2.set i b).length <= _; rw [List.length_set]; exact h3, fun x hx => ?_⟩
 rcases List.mem_or_eq_of_mem_set hx with hx | hx
 ·exact h4 x hx
 ·rw [hx]; exact hb
theorem Qez : ∃ fn : In_c2 -> Out_c2, ∀ x, (fun x : In_c2 => rdB 600 x.1 && houOk x.2.1) x = true -> (∃ k, E_c2 (fun x => (x.1, ())) (fun x => houSm x.1) Qaa (fun x => rdB 1 x.1) Qc1 (fun x => rdB 500 x.1) Qa2 (fun x => rdB 76 x.1) (fun x => (batNew x.1 x.2.1 x.2.2.1, ())) (fun x => smA x.2.1) Qc3 (fun x => rdB 50 x.1 && batOk x.2.1) k x = some (fn x)) /\ (fun (x : In_c2) (v : Out_c2) => Step 600 x.1 v.2.1 /\ houSm v.1 = true) x (fn x) := by
 refine Qaz (fun k x => E_c2 (fun x => (x.1, ())) (fun x => houSm x.1) Qaa (fun x => rdB 1 x.1) Qc1 (fun x => rdB 500 x.1) Qa2 (fun x => rdB 76 x.1) (fun x => (batNew x.1 x.2.1 x.2.2.1, ())) (fun x => smA x.2.1) Qc3 (fun x => rdB 50 x.1 && batOk x.2.1) k x) (fun x : In_c2 => rdB 600 x.1 && houOk x.2.1) (fun (x : In_c2) (v : Out_c2) => Step 600 x.1 v.2.1 /\ houSm v.1 = true) (([], [], []), (([], 0), ())) fun x hx => ?_
 have key : ∀ (r0 : MRd) (h : MHou), RdOk 600 r0 -> houOk h = true -> Gets (E_c2 (fun x => (x.1, ())) (fun x => houSm x.1) Qaa (fun x => rdB 1 x.1) Qc1 (fun x => rdB 500 x.1) Qa2 (fun x => rdB 76 x.1) (fun x => (batNew x.1 x.2.1 x.2.2.1, ())) (fun x => smA x.2.1) Qc3 (fun x => rdB 50 x.1 && batOk x.2.1) 0 (r0, h, ())) (fun v => Step 600 r0 v.2.1 /\ houSm v.1 = true) := by
  intro r0 h h0 hh
  have hsm : houSm h = true := Qex hh
  have hs := Step.refl r0
  have hro := (Qdx.1 (Qa1.1 hh).1).1
  have hbl := (Qa1.1 hh).2.2.1
  rw [ev_c2 0 r0 h]
  refine Qao hsm ?_
  dsimp only
  refine Qan (Q := PickQ) Qaj h0 rfl hs (by decide) fun y r' hq hs => ?_
  refine Qaf (fun _ => ?_) fun _ => ?_
  ·refine Qan (Q := PickQ) Qaj h0 rfl hs (by decide) fun z r' hz hs => ?_
   refine Qan (Q := PickQ) Qaj h0 rfl hs (by decide) fun o r' _ hs => ?_
   refine Qae (Qcd hz (by omega) (Int.le_refl _)) ?_
   exact Qac ⟨hs.mono (by decide), Qpo hsm (by rw [List.length_set]; exact Nat.le_refl _)⟩
  refine Qaf (fun _ => ?_) fun _ => ?_
  ·refine Qan (Q := fun a y => SpQ y) Qpe h0 rfl hs (by decide) fun z r' hz hs => ?_
   exact Qac ⟨hs.mono (by decide), Qpp hsm (Qvw hz)⟩
  refine Qaf (fun _ => ?_) fun _ => ?_
  ·refine Qan (Q := PickQ) Qaj h0 rfl hs (by decide) fun z r' hz hs => ?_
   refine Qan (Q := fun a y => 1 <= List.length y /\ List.length y <= 5) Qdy h0 rfl hs (by decide) fun t r' ht hs => ?_
   refine Qao (show smA t = true from Qlc ht.2) ?_
   refine Qae (Qau (by show List.length h.2.2 + 1 <= _; omega)) ?_
   exact Qac ⟨hs.mono (by decide), Qtc hh (Qsw _ _ _ ht.2).sm⟩
  refine Qaf (fun hc => ?_) fun _ => Qac ⟨hs.mono (by decide), hsm⟩
  have hc : (0 : Int) < (List.length h.2.2 : Int) := of_decide_eq_true hc
  refine Qan (Q := PickQ) Qaj h0 rfl hs (by decide) fun z r' hz hs => ?_
  have hz0 : 0 <= z := hz.1
  have hz1 : z < (List.length h.2.2 : Int) := hz.2 (show (1 : Int) <= (List.length h.2.2 : Int) by omega)
  have hi := Qcd hz (by omega) (Int.le_refl _)
  have hb := Qp1 hh hz0 hz1
  refine Qae hi ?_
  refine Qey (pA := fun a : MBat × Unit => batOk a.1) (Q := fun a y => BatDr y) Qpn h0 rfl hb hs (by decide) fun b r' hb hs => ?_
  refine Qae hi ?_
  exact Qac ⟨hs.mono (by decide), Qtd hsm (BatDr.sm hb)⟩
 obtain ⟨hx1, hx2⟩ := Bool.and_eq_true_iff.1 hx
 exact ⟨0, key x.1 x.2.1 (Qat.1 hx1) hx2⟩
noncomputable def Qb3 := Classical.choose Qez
theorem Ql6 (x : In_c2) (hx : (fun x : In_c2 => rdB 600 x.1 && houOk x.2.1) x = true) : (fun (x : In_c2) (v : Out_c2) => Step 600 x.1 v.2.1 /\ houSm v.1 = true) x (Qb3 x) := (Classical.choose_spec Qez x hx).2
theorem s_c2 : C_c2 (fun x => rdB 600 x.1 && houOk x.2.1) Qb3 := S_c2 s_as s_a1 s_bz s_a8 s_b1 s_c1 fun x hx => (Classical.choose_spec Qez x hx).1
theorem Ql7 (r : MRd) (a : MHou × Unit) (h : RdOk 600 r) (ha : (fun a : MHou × Unit => houOk a.1) a = true) : Step 600 r (Qb3 (r, a)).2.1 /\ (fun (a : MHou × Unit) (y : MHou) => houSm y = true) a (Qb3 (r, a)).1 := Ql6 (r, a) (Bool.and_eq_true_iff.2 ⟨Qat.2 h, ha⟩)
theorem Qgj : ∃ fn : In_c3 -> Out_c3, ∀ x, (fun x : In_c3 => bytesB x.1) x = true -> (∃ k, E_c3 Qen (fun x => bytesB x.1) Qc2 (fun x => rdB 4000 x.1) Qcq (fun x => rdB 180 x.1 && houOk x.2.1) Qaa (fun x => rdB 1 x.1) Qb3 (fun x => rdB 600 x.1 && houOk x.2.1) k x = some (fn x)) /\ (fun (x : In_c3) (v : Out_c3) => houSm v.1 = true /\ smA v.2.1.2.2.2.2.2.2 = true) x (fn x) := by
 refine Qaz (fun k x => E_c3 Qen (fun x => bytesB x.1) Qc2 (fun x => rdB 4000 x.1) Qcq (fun x => rdB 180 x.1 && houOk x.2.1) Qaa (fun x => rdB 1 x.1) Qb3 (fun x => rdB 600 x.1 && houOk x.2.1) k x) (fun x : In_c3 => bytesB x.1) (fun (x : In_c3) (v : Out_c3) => houSm v.1 = true /\ smA v.2.1.2.2.2.2.2.2 = true) (([], [], []), (0, 0, 0, 0, 0, (0, 0), []), ()) fun x hx => ?_
 have key : ∀ xs : List Int, bytesB xs = true -> Gets (E_c3 Qen (fun x => bytesB x.1) Qc2 (fun x => rdB 4000 x.1) Qcq (fun x => rdB 180 x.1 && houOk x.2.1) Qaa (fun x => rdB 1 x.1) Qb3 (fun x => rdB 600 x.1 && houOk x.2.1) 0 (xs, ())) (fun v => houSm v.1 = true /\ smA v.2.1.2.2.2.2.2.2 = true) := by
  intro xs h
  rw [ev_c3 0 xs]
  refine Qtx (Q := fun r => RdOk 1000000 r) h (Qrc (xs, ()) h) fun r0 h0 => ?_
  have hs := Step.refl r0
  refine Qt7 (Q := fun a y => houOk y = true) Qpl h0 rfl hs (by decide) fun y z r' hy hs => ?_
  refine Qey (pA := fun a : MHou × Int × Unit => houOk a.1) (Q := fun a y => List.length y.2.2.2.2.2.2 <= 5) Qoy h0 rfl hy hs (by decide) fun q r' hq hs => ?_
  refine Qan (Q := PickQ) Qaj h0 rfl hs (by decide) fun p r' _ hs => ?_
  refine Qaf (fun _ => ?_) fun _ => Qac ⟨Qex hy, Qlc hq⟩
  exact Qey (pA := fun a : MHou × Unit => houOk a.1) (Q := fun a y => houSm y = true) Ql7 h0 rfl hy hs (by decide) fun b r' hb hs => Qac ⟨hb, Qlc hq⟩
 exact ⟨0, key x.1 hx⟩
noncomputable def Qav := Classical.choose Qgj
theorem Qoz (x : In_c3) (hx : (fun x : In_c3 => bytesB x.1) x = true) : (fun (x : In_c3) (v : Out_c3) => houSm v.1 = true /\ smA v.2.1.2.2.2.2.2.2 = true) x (Qav x) := (Classical.choose_spec Qgj x hx).2
theorem s_c3 : C_c3 (fun x => bytesB x.1) Qav := S_c3 s_a0 s_bx s_by s_a1 s_c2 fun x hx => (Classical.choose_spec Qgj x hx).1
end Go.Proofs.YtddpemilmeijfaaGreat

set_option linter.unusedVariables false
set_option linter.unusedSimpArgs false
namespace Go.Proofs.YtddpemilmeijfaaGreat
open Go.Vm
theorem Qve {l m : List MTst} (h : m.map (·.1) = l.map (·.1)) {i : Nat} (hi : i < l.length) : (m.getD i t0).1 = (l.getD i t0).1 := by
 have := congrArg (fun z : List MAsk => z[i]?) h
 have : (m.map (·.1))[i]? = (l.map (·.1))[i]? := this
 have hl : m.length = l.length := by have := congrArg List.length h; rwa [List.length_map, List.length_map] at this
 rw [List.getElem?_map, List.getElem?_map, Qhf hi, Qhf (show i < m.length by omega)] at this
 exact Option.some.inj this
theorem p_spec2 (xs : List Int) (h y : MHou) (r : MReq) (hsm : houSm h = true) (hsy : houSm y = true) (hl : h.2.1.length <= y.2.1.length)
  (h1 : ∀ i : Nat, i < h.2.1.length -> (y.2.1.getD i spc0).1 = (h.2.1.getD i spc0).1)
  (h2 : y.2.2.length = h.2.2.length ∨ (y.2.2.length = h.2.2.length + 1 /\ (y.2.2.getD h.2.2.length batNone).1 = spcNow h.2.1 /\ (y.2.2.getD h.2.2.length batNone).2.1 = r.2.2.2.2.1 /\ r.2.1 = 3)) :
  WithFuel (fun k => r_lFnHouSpec Qav (fun x => bytesB x.1) (fun x => ((houDo x.1 x.2.1).1, (houDo x.1 x.2.1).2, ())) (fun x => houSm x.1 && smA x.2.1.2.2.2.2.2.2) (fun x => ((houDo x.1 x.2.1).1, (houDo x.1 x.2.1).2, ())) (fun x => houSm x.1 && smA x.2.1.2.2.2.2.2.2) (fun x => (same x.1 x.2.1, ())) (fun x => houSm x.1) (fun _ => (true, ())) (fun x => (same x.1 x.2.1, ())) (fun x => decide (List.length x.1 <= 4294967296)) (fun x => (spcNow x.1, ())) (fun x => decide (List.length x.1 <= 4294967296)) (xs, ()) k pt9 (h2_lFnHouSpec xs (0 : Int) h r y)) (fun v => v = (true, ())) := by
 obtain ⟨s1, s2, s3, s4⟩ := Qa5.1 hsm
 obtain ⟨q1, q2⟩ := Qbw.1 s2
 refine Qdi (σ := Unit) h.2.1.length (fun k i _ => r_lFnHouSpec Qav (fun x => bytesB x.1) (fun x => ((houDo x.1 x.2.1).1, (houDo x.1 x.2.1).2, ())) (fun x => houSm x.1 && smA x.2.1.2.2.2.2.2.2) (fun x => ((houDo x.1 x.2.1).1, (houDo x.1 x.2.1).2, ())) (fun x => houSm x.1 && smA x.2.1.2.2.2.2.2.2) (fun x => (same x.1 x.2.1, ())) (fun x => houSm x.1) (fun _ => (true, ())) (fun x => (same x.1 x.2.1, ())) (fun x => decide (List.length x.1 <= 4294967296)) (fun x => (spcNow x.1, ())) (fun x => decide (List.length x.1 <= 4294967296)) (xs, ()) k pt9 (h2_lFnHouSpec xs (i : Int) h r y)) (fun v => v = (true, ())) (fun _ _ => True) (fun _ _ => ?_) (fun i _ hi _ next => ?_) h.2.1.length 0 () (by omega) trivial
 ·refine ⟨1, ?_⟩
  show Gets (r_lFnHouSpec Qav (fun x => bytesB x.1) (fun x => ((houDo x.1 x.2.1).1, (houDo x.1 x.2.1).2, ())) (fun x => houSm x.1 && smA x.2.1.2.2.2.2.2.2) (fun x => ((houDo x.1 x.2.1).1, (houDo x.1 x.2.1).2, ())) (fun x => houSm x.1 && smA x.2.1.2.2.2.2.2.2) (fun x => (same x.1 x.2.1, ())) (fun x => houSm x.1) (fun _ => (true, ())) (fun x => (same x.1 x.2.1, ())) (fun x => decide (List.length x.1 <= 4294967296)) (fun x => (spcNow x.1, ())) (fun x => decide (List.length x.1 <= 4294967296)) (xs, ()) (0 + 1) pt9 _) _
  rw [rd2_lFnHouSpec, Qag (Nat.le_refl _), cond_false]
  refine Qaf (fun _ => Qac rfl) fun hc => ?_
  have hc := of_decide_eq_false hc
  obtain ⟨e1, e2, e3, e4⟩ := h2.resolve_left (fun e => hc (by rw [e]))
  rw [Qab (show h.2.2.length < y.2.2.length by omega), cond_true, cond_true]
  have e2 : (rdL (e := S_BatBatch) y.2.2 (List.length h.2.2 : Int)).1 = spcNow h.2.1 := e2
  have e3 : (rdL (e := S_BatBatch) y.2.2 (List.length h.2.2 : Int)).2.1 = r.2.2.2.2.1 := e3
  refine Qao (decide_eq_true q1) ?_
  dsimp only
  rw [e2, e3, decide_eq_true rfl, decide_eq_true rfl, decide_eq_true e4]
  exact Qac rfl
 ·obtain ⟨k, hn⟩ := next () trivial
  refine ⟨k + 1, ?_⟩
  show Gets (r_lFnHouSpec Qav (fun x => bytesB x.1) (fun x => ((houDo x.1 x.2.1).1, (houDo x.1 x.2.1).2, ())) (fun x => houSm x.1 && smA x.2.1.2.2.2.2.2.2) (fun x => ((houDo x.1 x.2.1).1, (houDo x.1 x.2.1).2, ())) (fun x => houSm x.1 && smA x.2.1.2.2.2.2.2.2) (fun x => (same x.1 x.2.1, ())) (fun x => houSm x.1) (fun _ => (true, ())) (fun x => (same x.1 x.2.1, ())) (fun x => decide (List.length x.1 <= 4294967296)) (fun x => (spcNow x.1, ())) (fun x => decide (List.length x.1 <= 4294967296)) (xs, ()) (k + 1) pt9 _) _
  rw [rd2_lFnHouSpec, Qab hi, Qab (show i < y.2.1.length by omega), Qai hi, Qak (by omega), cond_true, cond_true, cond_true]
  have e1 : (rdL (e := S_SpcSpec) y.2.1 (i : Int)).1 = (rdL (e := S_SpcSpec) h.2.1 (i : Int)).1 := h1 i hi
  refine Qao (decide_eq_true (q2 _ (Qp5 (Int.natCast_nonneg i) (by omega)))) ?_
  dsimp only
  rw [e1, Qa0]
  exact hn
theorem p_spec1 (xs : List Int) (h y : MHou) (r : MReq) (i : Nat) (a b : MBat) (hi : i <= 4294967296) (hsa : smB a = true) (hl : b.2.2.1.length = a.2.2.1.length) (ha : b.2.2.1.map (·.1) = a.2.2.1.map (·.1)) (P : Bool × Unit -> Prop)
  (hn : WithFuel (fun k => r_lFnHouSpec Qav (fun x => bytesB x.1) (fun x => ((houDo x.1 x.2.1).1, (houDo x.1 x.2.1).2, ())) (fun x => houSm x.1 && smA x.2.1.2.2.2.2.2.2) (fun x => ((houDo x.1 x.2.1).1, (houDo x.1 x.2.1).2, ())) (fun x => houSm x.1 && smA x.2.1.2.2.2.2.2.2) (fun x => (same x.1 x.2.1, ())) (fun x => houSm x.1) (fun _ => (true, ())) (fun x => (same x.1 x.2.1, ())) (fun x => decide (List.length x.1 <= 4294967296)) (fun x => (spcNow x.1, ())) (fun x => decide (List.length x.1 <= 4294967296)) (xs, ()) k pt11 (h0_lFnHouSpec xs ((i + 1 : Nat) : Int) h r y)) P) :
  WithFuel (fun k => r_lFnHouSpec Qav (fun x => bytesB x.1) (fun x => ((houDo x.1 x.2.1).1, (houDo x.1 x.2.1).2, ())) (fun x => houSm x.1 && smA x.2.1.2.2.2.2.2.2) (fun x => ((houDo x.1 x.2.1).1, (houDo x.1 x.2.1).2, ())) (fun x => houSm x.1 && smA x.2.1.2.2.2.2.2.2) (fun x => (same x.1 x.2.1, ())) (fun x => houSm x.1) (fun _ => (true, ())) (fun x => (same x.1 x.2.1, ())) (fun x => decide (List.length x.1 <= 4294967296)) (fun x => (spcNow x.1, ())) (fun x => decide (List.length x.1 <= 4294967296)) (xs, ()) k pt10 (h1_lFnHouSpec xs (i : Int) (0 : Int) h r y a b)) P := by
 obtain ⟨s1, s2, s3, s4⟩ := Qbp.1 hsa
 refine Qdi (σ := Unit) a.2.2.1.length (fun k j _ => r_lFnHouSpec Qav (fun x => bytesB x.1) (fun x => ((houDo x.1 x.2.1).1, (houDo x.1 x.2.1).2, ())) (fun x => houSm x.1 && smA x.2.1.2.2.2.2.2.2) (fun x => ((houDo x.1 x.2.1).1, (houDo x.1 x.2.1).2, ())) (fun x => houSm x.1 && smA x.2.1.2.2.2.2.2.2) (fun x => (same x.1 x.2.1, ())) (fun x => houSm x.1) (fun _ => (true, ())) (fun x => (same x.1 x.2.1, ())) (fun x => decide (List.length x.1 <= 4294967296)) (fun x => (spcNow x.1, ())) (fun x => decide (List.length x.1 <= 4294967296)) (xs, ()) k pt10 (h1_lFnHouSpec xs (i : Int) (j : Int) h r y a b)) P (fun _ _ => True) (fun _ _ => ?_) (fun j _ hj _ next => ?_) a.2.2.1.length 0 () (by omega) trivial
 ·obtain ⟨k, hk⟩ := hn
  refine ⟨k + 1, ?_⟩
  show Gets (r_lFnHouSpec Qav (fun x => bytesB x.1) (fun x => ((houDo x.1 x.2.1).1, (houDo x.1 x.2.1).2, ())) (fun x => houSm x.1 && smA x.2.1.2.2.2.2.2.2) (fun x => ((houDo x.1 x.2.1).1, (houDo x.1 x.2.1).2, ())) (fun x => houSm x.1 && smA x.2.1.2.2.2.2.2.2) (fun x => (same x.1 x.2.1, ())) (fun x => houSm x.1) (fun _ => (true, ())) (fun x => (same x.1 x.2.1, ())) (fun x => decide (List.length x.1 <= 4294967296)) (fun x => (spcNow x.1, ())) (fun x => decide (List.length x.1 <= 4294967296)) (xs, ()) (k + 1) pt10 _) _
  rw [rd1_lFnHouSpec, Qag (Nat.le_refl _), cond_false, Qak hi]
  exact hk
 ·obtain ⟨k, hk⟩ := next () trivial
  refine ⟨k + 1, ?_⟩
  show Gets (r_lFnHouSpec Qav (fun x => bytesB x.1) (fun x => ((houDo x.1 x.2.1).1, (houDo x.1 x.2.1).2, ())) (fun x => houSm x.1 && smA x.2.1.2.2.2.2.2.2) (fun x => ((houDo x.1 x.2.1).1, (houDo x.1 x.2.1).2, ())) (fun x => houSm x.1 && smA x.2.1.2.2.2.2.2.2) (fun x => (same x.1 x.2.1, ())) (fun x => houSm x.1) (fun _ => (true, ())) (fun x => (same x.1 x.2.1, ())) (fun x => decide (List.length x.1 <= 4294967296)) (fun x => (spcNow x.1, ())) (fun x => decide (List.length x.1 <= 4294967296)) (xs, ()) (k + 1) pt10 _) _
  have e1 : (rdL (e := S_TstTest) a.2.2.1 (j : Int)).1 = (rdL (e := S_TstTest) b.2.2.1 (j : Int)).1 := (Qve ha hj).symm
  rw [rd1_lFnHouSpec, Qab hj, Qab (show j < b.2.2.1.length by omega), Qai hj, Qak (by omega), cond_true, cond_true, cond_true, Qf0, e1, Qa0]
  exact hk
theorem p_spec0 (xs : List Int) (h y : MHou) (r : MReq) (hsm : houSm h = true) (hl : h.2.2.length <= y.2.2.length)
  (h1 : ∀ i : Nat, i < h.2.2.length -> (y.2.2.getD i batNone).1 = (h.2.2.getD i batNone).1 /\ (y.2.2.getD i batNone).2.1 = (h.2.2.getD i batNone).2.1 /\ (y.2.2.getD i batNone).2.2.1.map (·.1) = (h.2.2.getD i batNone).2.2.1.map (·.1)) (P : Bool × Unit -> Prop)
  (hn : WithFuel (fun k => r_lFnHouSpec Qav (fun x => bytesB x.1) (fun x => ((houDo x.1 x.2.1).1, (houDo x.1 x.2.1).2, ())) (fun x => houSm x.1 && smA x.2.1.2.2.2.2.2.2) (fun x => ((houDo x.1 x.2.1).1, (houDo x.1 x.2.1).2, ())) (fun x => houSm x.1 && smA x.2.1.2.2.2.2.2.2) (fun x => (same x.1 x.2.1, ())) (fun x => houSm x.1) (fun _ => (true, ())) (fun x => (same x.1 x.2.1, ())) (fun x => decide (List.length x.1 <= 4294967296)) (fun x => (spcNow x.1, ())) (fun x => decide (List.length x.1 <= 4294967296)) (xs, ()) k pt9 (h2_lFnHouSpec xs (0 : Int) h r y)) P) :
  WithFuel (fun k => r_lFnHouSpec Qav (fun x => bytesB x.1) (fun x => ((houDo x.1 x.2.1).1, (houDo x.1 x.2.1).2, ())) (fun x => houSm x.1 && smA x.2.1.2.2.2.2.2.2) (fun x => ((houDo x.1 x.2.1).1, (houDo x.1 x.2.1).2, ())) (fun x => houSm x.1 && smA x.2.1.2.2.2.2.2.2) (fun x => (same x.1 x.2.1, ())) (fun x => houSm x.1) (fun _ => (true, ())) (fun x => (same x.1 x.2.1, ())) (fun x => decide (List.length x.1 <= 4294967296)) (fun x => (spcNow x.1, ())) (fun x => decide (List.length x.1 <= 4294967296)) (xs, ()) k pt11 (h0_lFnHouSpec xs (0 : Int) h r y)) P := by
 obtain ⟨s1, s2, s3, s4⟩ := Qa5.1 hsm
 refine Qdi (σ := Unit) h.2.2.length (fun k i _ => r_lFnHouSpec Qav (fun x => bytesB x.1) (fun x => ((houDo x.1 x.2.1).1, (houDo x.1 x.2.1).2, ())) (fun x => houSm x.1 && smA x.2.1.2.2.2.2.2.2) (fun x => ((houDo x.1 x.2.1).1, (houDo x.1 x.2.1).2, ())) (fun x => houSm x.1 && smA x.2.1.2.2.2.2.2.2) (fun x => (same x.1 x.2.1, ())) (fun x => houSm x.1) (fun _ => (true, ())) (fun x => (same x.1 x.2.1, ())) (fun x => decide (List.length x.1 <= 4294967296)) (fun x => (spcNow x.1, ())) (fun x => decide (List.length x.1 <= 4294967296)) (xs, ()) k pt11 (h0_lFnHouSpec xs (i : Int) h r y)) P (fun _ _ => True) (fun _ _ => ?_) (fun i _ hi _ next => ?_) h.2.2.length 0 () (by omega) trivial
 ·obtain ⟨k, hk⟩ := hn
  refine ⟨k + 1, ?_⟩
  show Gets (r_lFnHouSpec Qav (fun x => bytesB x.1) (fun x => ((houDo x.1 x.2.1).1, (houDo x.1 x.2.1).2, ())) (fun x => houSm x.1 && smA x.2.1.2.2.2.2.2.2) (fun x => ((houDo x.1 x.2.1).1, (houDo x.1 x.2.1).2, ())) (fun x => houSm x.1 && smA x.2.1.2.2.2.2.2.2) (fun x => (same x.1 x.2.1, ())) (fun x => houSm x.1) (fun _ => (true, ())) (fun x => (same x.1 x.2.1, ())) (fun x => decide (List.length x.1 <= 4294967296)) (fun x => (spcNow x.1, ())) (fun x => decide (List.length x.1 <= 4294967296)) (xs, ()) (k + 1) pt11 _) _
  rw [rd0_lFnHouSpec, Qag (Nat.le_refl _), cond_false]
  exact hk
 ·obtain ⟨g1, g2, g3⟩ := h1 i hi
  have g1 : (rdL (e := S_BatBatch) y.2.2 (i : Int)).1 = (rdL (e := S_BatBatch) h.2.2 (i : Int)).1 := g1
  have g2 : (rdL (e := S_BatBatch) y.2.2 (i : Int)).2.1 = (rdL (e := S_BatBatch) h.2.2 (i : Int)).2.1 := g2
  have g3 : (rdL (e := S_BatBatch) y.2.2 (i : Int)).2.2.1.map (·.1) = (rdL (e := S_BatBatch) h.2.2 (i : Int)).2.2.1.map (·.1) := g3
  have g4 : (rdL (e := S_BatBatch) y.2.2 (i : Int)).2.2.1.length = (rdL (e := S_BatBatch) h.2.2 (i : Int)).2.2.1.length := by have := congrArg List.length g3; rwa [List.length_map, List.length_map] at this
  obtain ⟨k, hk⟩ := p_spec1 xs h y r i _ _ (by omega) (show smB (rdL (e := S_BatBatch) h.2.2 (i : Int)) = true from s4 _ (Qp5 (Int.natCast_nonneg i) (by omega))) g4 g3 P (next () trivial)
  refine ⟨k + 1, ?_⟩
  show Gets (r_lFnHouSpec Qav (fun x => bytesB x.1) (fun x => ((houDo x.1 x.2.1).1, (houDo x.1 x.2.1).2, ())) (fun x => houSm x.1 && smA x.2.1.2.2.2.2.2.2) (fun x => ((houDo x.1 x.2.1).1, (houDo x.1 x.2.1).2, ())) (fun x => houSm x.1 && smA x.2.1.2.2.2.2.2.2) (fun x => (same x.1 x.2.1, ())) (fun x => houSm x.1) (fun _ => (true, ())) (fun x => (same x.1 x.2.1, ())) (fun x => decide (List.length x.1 <= 4294967296)) (fun x => (spcNow x.1, ())) (fun x => decide (List.length x.1 <= 4294967296)) (xs, ()) (k + 1) pt11 _) _
  rw [rd0_lFnHouSpec, Qab hi, Qab (show i < y.2.2.length by omega), Qai hi, cond_true, cond_true, cond_true, g1, g2, g4, decide_eq_true rfl, decide_eq_true rfl, decide_eq_true rfl, cond_true, cond_false, cond_false, cond_false]
  exact hk
theorem s_lFnHouSpec : C_lFnHouSpec (lawPre _) (fun _ => (true, ())) := S_lFnHouSpec s_c3 s_f5 s_f9 s_fg s_fk s_fb s_ed fun x hx => by
 have hb : bytesB x.1 = true := Qty (Qla.1 hx).1.2
 obtain ⟨xs, u0⟩ := x
 have hd := Qoz (xs, ()) hb
 suffices hA : ∃ k, ∀ h r, (Qav (xs, ())) = (h, r, ()) -> (houOk h && reqOk r) = true -> r_lFnHouSpec Qav (fun x => bytesB x.1) (fun x => ((houDo x.1 x.2.1).1, (houDo x.1 x.2.1).2, ())) (fun x => houSm x.1 && smA x.2.1.2.2.2.2.2.2) (fun x => ((houDo x.1 x.2.1).1, (houDo x.1 x.2.1).2, ())) (fun x => houSm x.1 && smA x.2.1.2.2.2.2.2.2) (fun x => (same x.1 x.2.1, ())) (fun x => houSm x.1) (fun _ => (true, ())) (fun x => (same x.1 x.2.1, ())) (fun x => decide (List.length x.1 <= 4294967296)) (fun x => (spcNow x.1, ())) (fun x => decide (List.length x.1 <= 4294967296)) (xs, ()) k pt11 (h0_lFnHouSpec xs (0 : Int) h r (houDo h r).1) = some (true, ()) by
  obtain ⟨k, hk⟩ := hA
  refine ⟨k, (ev_lFnHouSpec k xs).trans (Qsj (Qaf (fun _ => Qac rfl) fun _ => Qao hb ?_))⟩
  generalize Qav (xs, ()) = D at hd hk ⊢
  obtain ⟨h, r, u⟩ := D
  change MHou at h
  change MReq at r
  have hk := hk h r rfl
  have hd1 : houSm h = true := hd.1
  have hd2 : smA r.2.2.2.2.2.2 = true := hd.2
  have hp : (houSm h && smA r.2.2.2.2.2.2) = true := by rw [hd1, hd2]; rfl
  have hsx := (Qj2 h r).1
  refine Qao hp (Qao hp ?_)
  dsimp only
  refine Qao hsx ?_
  dsimp only
  rw [Qa0, decide_eq_true rfl, cond_true, cond_false, cond_false]
  cases hc : (houOk h && reqOk r)
  ·rw [Qt9 hc]
   exact Qac rfl
  ·obtain ⟨hh, hr⟩ := Bool.and_eq_true_iff.1 hc
   have hn := (Qm7 hh hr).1.n
   rw [decide_eq_false (show ¬ (houDo h r).2 = 0 by omega), cond_false]
   exact ⟨_, hk hc, rfl⟩
 have hd1 : houSm (Qav (xs, ())).1 = true := hd.1
 generalize Qav (xs, ()) = D at hd1
 obtain ⟨h, r, u⟩ := D
 change MHou at h
 change MReq at r
 cases hc : (houOk h && reqOk r)
 ·refine ⟨0, fun h' r' e hk => ?_⟩
  cases e
  rw [hc] at hk; cases hk
 ·obtain ⟨hh, hr⟩ := Bool.and_eq_true_iff.1 hc
  have dd := (Qm7 hh hr).1
  obtain ⟨f1, f2, f3⟩ := dd.spec hh
  obtain ⟨k, hk⟩ := (p_spec0 xs h (houDo h r).1 r hd1 dd.lens.2.2 f1 _ (p_spec2 xs h (houDo h r).1 r hd1 (Qj2 h r).1 dd.lens.2.1 f2 f3)).eq
  refine ⟨k, fun h' r' e _ => ?_⟩
  cases e
  exact hk
end Go.Proofs.YtddpemilmeijfaaGreat
