/- A function whose body evaluates keeps its contract. -/
import Derived.Test.YtkjimaolpijoiaaVm26
set_option linter.unusedVariables false
set_option linter.unusedSimpArgs false
namespace Go.Vm

theorem least {T : Nat → Prop} (h : ∃ j, T j) : ∃ j, T j ∧ ∀ i, i < j → ¬ T i := by
  obtain ⟨j, hj⟩ := h
  induction j using Nat.strongRecOn with
  | _ j ih =>
    by_cases hex : ∃ i, i < j ∧ T i
    · obtain ⟨i, hi, ht⟩ := hex; exact ih i hi ht
    · exact ⟨j, hj, fun i hi ht => hex ⟨i, hi, ht⟩⟩

section
variable {P : Program} {X : Ctx} {w0 : World} {st0 : Blks} {ρ0 : Nat → Value} {φ0 : Nat → Blks} {s0 : St} {fn : Func} {rs : List (RK × Sh)} {ms : List Mode} {x : (insSh ms).den} {y0 : (outSh rs ms).den} {c0 : Code} {Q0 : Exit → Act → World → Prop}

def TT (X : Ctx) (w0 : World) (st0 : Blks) (ρ0 : Nat → Value) (φ0 : Nat → Blks) (s0 : St) (fn : Func) (rs : List (RK × Sh)) (ms : List Mode) (x : (insSh ms).den) (y0 : (outSh rs ms).den) (p : List Bool) (a : Act) (w : World) (j : Nat) : Prop :=
  ∃ s, Inv X w0 st0 ρ0 φ0 s0 a w s ∧ rounds X fn rs ms x j p s = some y0

def Jlt (X : Ctx) (w0 : World) (st0 : Blks) (ρ0 : Nat → Value) (φ0 : Nat → Blks) (s0 : St) (fn : Func) (rs : List (RK × Sh)) (ms : List Mode) (x : (insSh ms).den) (y0 : (outSh rs ms).den) (k : Nat) (p : List Bool) (a : Act) (w : World) : Prop :=
  ∃ j, j < k ∧ TT X w0 st0 ρ0 φ0 s0 fn rs ms x y0 p a w j

theorem rounds_ok (hA : TyAll P X) (hC : ConOk P X) (hmix : P.follows .mixedOrders = true) (hb : fn.body = some c0) (hK : KOk X w0 st0 ρ0 φ0 s0 y0 (kRet X fn rs ms x) Q0) :
    ∀ (k : Nat) (p : List Bool) (a : Act) (w : World) (s : St), Inv X w0 st0 ρ0 φ0 s0 a w s → rounds X fn rs ms x k p s = some y0 → loopW P (Jlt X w0 st0 ρ0 φ0 s0 fn rs ms x y0 k) c0 p.reverse [] Q0 a w := by
  intro k
  induction k using Nat.strongRecOn with
  | _ k ih =>
    intro p a w s hi hr
    open Classical in
    let μ : Act → World → Nat := fun a w => if h : ∃ j, TT X w0 st0 ρ0 φ0 s0 fn rs ms x y0 p a w j then Classical.choose (least h) else 0
    have hμ : ∀ a w, (∃ j, TT X w0 st0 ρ0 φ0 s0 fn rs ms x y0 p a w j) → TT X w0 st0 ρ0 φ0 s0 fn rs ms x y0 p a w (μ a w) ∧ ∀ i, TT X w0 st0 ρ0 φ0 s0 fn rs ms x y0 p a w i → μ a w ≤ i := by
      intro a w h
      have e : μ a w = Classical.choose (least h) := by simp only [μ]; rw [dif_pos h]
      obtain ⟨h1, h2⟩ := Classical.choose_spec (least h)
      rw [e]
      refine ⟨h1, fun i hti => ?_⟩
      rcases Nat.lt_or_ge i (Classical.choose (least h)) with hlt | hge
      · exact absurd hti (h2 i hlt)
      · exact hge
    refine loopW_of_rounds (I := fun a w => ∃ j, j ≤ k ∧ TT X w0 st0 ρ0 φ0 s0 fn rs ms x y0 p a w j) (μ := μ) (fun a w hI => ?_) ⟨k, Nat.le_refl _, s, hi, hr⟩
    obtain ⟨j1, hj1, ht1⟩ := hI
    obtain ⟨⟨s1, hi1, hr1⟩, hmin⟩ := hμ a w ⟨j1, ht1⟩
    have hle : μ a w ≤ k := Nat.le_trans (hmin j1 ht1) hj1
    cases hj : μ a w with
    | zero => rw [hj] at hr1; cases hr1
    | succ j0 =>
      rw [hj] at hr1 hle
      simp only [rounds, hb] at hr1
      have hround := evAt_ok (M := rounds X fn rs ms x j0) (J := Jlt X w0 st0 ρ0 φ0 s0 fn rs ms x y0 (j0 + 1)) hA hC hmix (fun p a w s hi hm => ⟨j0, Nat.lt_succ_self _, s, hi, hm⟩) hK (fun q a w s hi hm => by
        rw [List.append_nil] at hm
        have := ih j0 (by omega) q.reverse a w s hi hm
        rw [List.reverse_reverse] at this
        exact loopW_mono (fun p a w ⟨i, h1, h2⟩ => ⟨i, by omega, h2⟩) (fun _ _ _ h => h) this) hi1 hr1
      rw [List.reverse_reverse, List.append_nil] at hround
      refine roundW_mono (fun p a w ⟨i, h1, h2⟩ => ⟨i, by omega, h2⟩) (fun a' w' ⟨i, h1, h2⟩ => ⟨⟨i, by omega, h2⟩, ?_⟩) (fun _ _ _ h => h) hround
      have := (hμ a' w' ⟨i, h2⟩).2 i h2
      omega

theorem sound_of (hA : TyAll P X) (hC : ConOk P X) (hmix : P.follows .mixedOrders = true) {f : FuncId} {c : Con} {fn : Func} {c0 : Code} (hfn : P.funcs[f]? = some fn) (hb : fn.body = some c0) (hname : (fn.name == "runtime.NumGoroutine") = false)
    (hev : ∀ x, c.pre x = true → ∃ k, evFn X fn c.rs c.ps k x = some (c.fn x)) : Sound P f c := by
  have hname : ¬ fn.name = "runtime.NumGoroutine" := by simpa using hname
  refine ⟨fun args w => by simp [callFunc, hfn, hname, hb], fun w st vals x L hst hL hpre hargs => ?_⟩
  obtain ⟨k, hk⟩ := hev x hpre
  unfold evFn evBody at hk
  simp only [hb] at hk
  cases hcond : (nodup ((initL c.ps x 0).2.map (·.1)) && Nat.beq X.n fn.ntmps && Nat.ble c.ps.length X.n) <;> rw [hcond] at hk
  · cases hk
  simp only [cond_true] at hk
  simp only [Bool.and_eq_true, nodup_iff, Nat.ble_eq] at hcond
  obtain ⟨⟨hn, hnt⟩, hlen⟩ := hcond
  have hnt := Nat.eq_of_beq_eq_true hnt
  obtain ⟨ρ, φ, hsim, hφL, hpar⟩ := init_ok (X := X) (fn := fn) hargs hn hnt hlen hst hL
  refine calls_of_wp hfn hb ?_
  have hI : Inv X w st ρ φ (initSt c.ps x) { tmps := vals.toArray ++ Array.replicate (fn.ntmps - vals.toArray.size) undef, defers := [] } w (initSt c.ps x) := ⟨st, ρ, φ, hsim, Fr.refl _ _ _ _ _⟩
  have hKret : KOk X w st ρ φ (initSt c.ps x) (c.fn x) (kRet X fn c.rs c.ps x) (bodyPost P fn fun e w' => ∃ us st' G, e = .returned (retV us) ∧ Post w w' st L c x vals us st' G) := by
    intro e s a w' hi hret
    obtain ⟨st1, ρ1, φ1, h1, h2⟩ := hi
    have key : kRet X fn c.rs c.ps x .ret s = some (c.fn x) → a.defers = [] ∧ ∃ v, (results fn a.tmps).run P w' = .ok v w' ∧ ∃ us st' G, Ending.returned v = .returned (retV us) ∧ Post w w' st L c x vals us st' G := by
      intro hret
      simp only [kRet] at hret
      cases ho : retOut X s c.rs c.ps x fn.results.toList with
      | none => rw [ho] at hret; cases hret
      | some o =>
        rw [ho] at hret; simp only at hret
        cases hc : (nodup o.own && disj o.fr o.own) <;> rw [hc] at hret
        · cases hret
        simp only [cond_true, Option.some.injEq] at hret
        simp only [Bool.and_eq_true, nodup_iff, disj_iff] at hc
        obtain ⟨g1, g2, us, g3, g4⟩ := ret_ok (P := P) (st' := fun b => st1 b ∨ ∃ id ∈ o.fr, φ1 id b) hA h1 (ρ0 := ρ) (fun id h5 hi => (h2.pid id (by omega) hi).2) hpar ho hc.1 (fun b hb => .inl hb) (fun id hid b hb => .inr ⟨id, hid, hb⟩)
        refine ⟨h1.df, retV us, ?_, us, _, _, rfl, h2.os, h2.tape, h2.output, h2.size, fun b hb hn => h2.keep b hb (fun id hid => hn (hφL id b hid)), fun b hb => .inl (h2.st1 b hb), ?_, ?_, ?_, ?_, hret ▸ g4⟩
        · have hres : results fn a.tmps = (do let vs ← fn.results.mapM (resF a.tmps); pure (if h : vs.size = 1 then vs[0] else .tuple vs)) := rfl
          rw [hres, Array.mapM_eq_mapM_toList]
          simp only [bind_map_left, Sem.run_bind]
          rw [g3]
          simp only [Result.andThen, Sem.run_pure]
          cases us with
          | nil => rfl
          | cons u us =>
            cases us with
            | nil => rfl
            | cons _ _ => simp [retV]
        · rintro b (hb | ⟨id, _, hb⟩)
          · rcases h2.st2 b hb with hb | ⟨id, hb⟩ | hb
            · exact .inl hb
            · exact .inr (.inl (hφL id b hb))
            · exact .inr (.inr hb)
          · rcases h2.ow id b hb with ⟨j, hb⟩ | hb
            · exact .inr (.inl (hφL j b hb))
            · exact .inr (.inr hb)
        · rintro b (hb | ⟨id, _, hb⟩)
          · exact h1.stlt b hb
          · exact (h1.lt id b hb).1
        · rintro b (⟨id, _, hb⟩ | ⟨id, _, hb⟩) <;>
          · rcases h2.ow id b hb with ⟨j, hb⟩ | hb
            · exact .inl (hφL j b hb)
            · exact .inr hb
        · rintro b hb
          obtain ⟨id, hid, hib⟩ : ∃ id, (id ∈ o.own ∨ id ∈ pbx c.ps 0) ∧ φ1 id b := by
            rcases hb with ⟨id, h, hb⟩ | ⟨id, h, hb⟩
            · exact ⟨id, .inl h, hb⟩
            · exact ⟨id, .inr h, hb⟩
          refine ⟨(h1.lt id b hib).1, ?_⟩
          rintro (hs | ⟨j, hj, hjb⟩)
          · exact (h1.lt id b hib).2 hs
          · have := h1.dj id j b hib hjb; subst this
            rcases hid with hid | hid
            · exact hc.2 id hj hid
            · obtain ⟨_, _, _, hh⟩ := g2 id hj
              obtain ⟨_, _, hh2⟩ := g1 id hid
              rw [hh] at hh2; cases hh2
    cases e with
    | normal => exact key hret
    | ret => exact key hret
    | exit i => cases hret
  exact ev_ok (M := rounds X fn c.rs c.ps x k) (J := Jlt X w st ρ φ (initSt c.ps x) fn c.rs c.ps x (c.fn x) k) hA hC hmix hKret (fun q a w' s hi hm => by
    rw [List.append_nil] at hm
    have := rounds_ok hA hC hmix hb hKret k q.reverse a w' s hi hm
    rw [List.reverse_reverse] at this
    exact this) hI hk

end
end Go.Vm
