/- Steps in the program's own rules; regions in the order of the text. -/
import Derived.Test.YtkjimaolpijoiaaVm17
import Derived.Tactics
set_option linter.unusedVariables false
set_option linter.unusedSimpArgs false
namespace Go.Vm

/-- Every function's contract is kept. -/
def ConOk (P : Program) (X : Ctx) : Prop := ∀ f, ∀ c ∈ X.con f, Sound P f c

section
variable {P : Program} {X : Ctx} {w : World} {st : Blks} {ρ : Nat → Value} {φ : Nat → Blks} {n : Nat} {a : Act} {s : St} {o : Oper} {hp : Nat → Ob}

theorem callCons_mem {d : Nat} {as : List AV} {r : Res} : ∀ {cs : List Con}, callCons hp d as cs = some r → ∃ c ∈ cs, callBy hp d c as = some r
  | [], h => by cases h
  | c :: cs, h => by
    simp only [callCons] at h
    cases hc : callBy hp d c as with
    | some x => rw [hc] at h; cases h; exact ⟨c, by simp, hc⟩
    | none =>
      rw [hc] at h
      obtain ⟨c', h1, h2⟩ := callCons_mem h
      exact ⟨c', by simp [h1], h2⟩

theorem all2_map {α β γ : Type} {R : β → γ → Prop} {f : α → β} {g : α → γ} : ∀ {l : List α}, (∀ x ∈ l, R (f x) (g x)) → All2 R (l.map f) (l.map g)
  | [], _ => .nil
  | x :: l, h => .cons (h x (by simp)) (all2_map (fun y hy => h y (by simp [hy])))

theorem all2_append {β γ : Type} {R : β → γ → Prop} : ∀ {a : List β} {b : List γ} {c : List β} {d : List γ}, All2 R a b → All2 R c d → All2 R (a ++ c) (b ++ d)
  | _, _, _, _, .nil, h => h
  | _, _, _, _, .cons h1 h2, h => .cons h1 (all2_append h2 h)

/-- One step: what the model does, and what comes next. -/
theorem step_wp (hA : TyAll P X) (hC : ConOk P X) (h : Sim w st ρ φ X.n a s) {s' : St} (hs : step X o s = some (true, s')) {K : Act → World → Prop} {Q : Exit → Act → World → Prop}
    (hK : ∀ v w' st' ρ' φ', Sim w' st' ρ' φ' X.n (a.put o.dst v) s' → Fr w w' st st' ρ ρ' φ φ' s s' → K (a.put o.dst v) w') : o.wp P a w K Q := by
  unfold step at hs
  simp only at hs
  cases hr : core X o (rho X s.env) (restr s.hp (foot X s o)) with
  | none => rw [hr] at hs; cases hs
  | some r =>
    rw [hr] at hs; simp only at hs
    cases hcond : (dstOk X o.dst && newOk s (foot X s o) r.up && nodup (r.up.map (·.1)) && disj (r.up.map (·.1)) r.dr && subl r.dr (foot X s o)) <;> rw [hcond] at hs
    · cases hs
    simp only [cond_true, Option.some.injEq, Prod.mk.injEq] at hs
    obtain ⟨hc, rfl⟩ := hs
    simp only [Bool.and_eq_true, nodup_iff] at hcond
    obtain ⟨⟨⟨⟨hd, hnew⟩, hnd⟩, _⟩, _⟩ := hcond
    have pure : Does P X o w st ρ φ a s r → o.wp P a w K Q := by
      rintro ⟨nx, v, w', st', ρ', φ', hrun, hnx, hsim, hfr⟩
      unfold Oper.wp
      rw [hrun]
      rcases hnx with rfl | ⟨rfl, rfl⟩
      · exact hK v w' st' ρ' φ' hsim hfr
      · exact hK undef w' st' ρ' φ' hsim hfr
    by_cases hcall : ∃ c f, o.op = .call c ∧ c.callee = .value f
    · obtain ⟨c, f, hop, hcal⟩ := hcall
      unfold core at hr
      simp only [hop, hcal] at hr
      cases hf : rho X s.env 0 f with
      | fn g caps =>
        rw [hf] at hr; simp only at hr
        obtain ⟨con, hmem, hby⟩ := callCons_mem hr
        have hfv : a.eval f = .func (.func g) #[] (caps.map ρ).toArray := by
          have rf := opnd_RV h 0 f
          rw [hf] at rf
          have e : [a.eval f] = [.func (.func g) #[] (caps.map ρ).toArray] := RC_scalar rf rfl rfl (by simp)
          simpa using e
        have hv : All2 (ArgV w st ρ s.hp) ((c.args.toList.map fun x => rho X s.env 0 x) ++ caps.map fun id => .ptr id none []) (c.args.toList.map a.eval ++ caps.map ρ) :=
          all2_append (all2_map fun x _ => .inl (opnd_RV h 0 x)) (all2_map fun id _ => .inr ⟨id, rfl, rfl⟩)
        have hex : (execOp a.eval o).run P w = .ok (.enter g (c.args.toList.map a.eval ++ caps.map ρ).toArray) w := by
          have hS := (hC g con hmem).1 ((c.args.toList.map a.eval ++ caps.map ρ).toArray) w
          have e1 : c.args.map a.eval ++ (caps.map ρ).toArray = (c.args.toList.map a.eval ++ caps.map ρ).toArray := by
            apply Array.ext'; simp
          simp only [execOp, hop, resolve, hcal, hfv, Deferred.ofValue]
          simp [invoke]
          rw [← hS]
          congr 2
        unfold Oper.wp
        rw [hex, Oper.upon_enter]
        refine (call_wp (hC g con hmem) h hd hby hc hnew hnd hv).mono ?_
        rintro e w' ⟨v, st', ρ', φ', rfl, hsim, hfr⟩
        exact hK v w' st' ρ' φ' hsim hfr
      | _ => rw [hf] at hr; cases hr
    · exact pure (core_does hA h hd hnew hr hc (fun c f h1 h2 => absurd ⟨c, f, h1, h2⟩ hcall))

/-- The state of a function under way, seen from its start. -/
def Inv (X : Ctx) (w0 : World) (st0 : Blks) (ρ0 : Nat → Value) (φ0 : Nat → Blks) (s0 : St) (a : Act) (w : World) (s : St) : Prop :=
  ∃ st ρ φ, Sim w st ρ φ X.n a s ∧ Fr w0 w st0 st ρ0 ρ φ0 φ s0 s

variable {w0 : World} {st0 : Blks} {ρ0 : Nat → Value} {φ0 : Nat → Blks} {s0 : St}

theorem Inv.step (hA : TyAll P X) (hC : ConOk P X) (h : Inv X w0 st0 ρ0 φ0 s0 a w s) {s' : St} (hs : step X o s = some (true, s')) {K : Act → World → Prop} {Q : Exit → Act → World → Prop}
    (hK : ∀ v w', Inv X w0 st0 ρ0 φ0 s0 (a.put o.dst v) w' s' → K (a.put o.dst v) w') : o.wp P a w K Q := by
  obtain ⟨st, ρ, φ, h1, h2⟩ := h
  exact step_wp hA hC h1 hs fun v w' st' ρ' φ' g1 g2 => hK v w' ⟨st', ρ', φ', g1, h2.trans g2⟩

theorem Inv.skip (h : Inv X w0 st0 ρ0 φ0 s0 a w s) (hd : dstOk X o.dst = true) : Inv X w0 st0 ρ0 φ0 s0 (a.put o.dst undef) w (s.put o.dst .tnil) := by
  obtain ⟨st, ρ, φ, h1, h2⟩ := h
  refine ⟨st, ρ, φ, h1.put o.dst undef .tnil (fun q hq => ?_) (.inl ⟨rfl, _, rfl, rfl⟩) (by simp [AV.ids]), h2.os, h2.tape, h2.output, h2.size, h2.keep, h2.st1, h2.st2, h2.ow, ?_⟩
  · rw [hq] at hd; simpa [dstOk, Nat.blt_eq] using hd
  · have : (s.put o.dst .tnil).hp = s.hp := by cases o.dst <;> rfl
    rw [this]; exact h2.pid

theorem put_known {t : Nat} {v : AV} (h : s.env t = v) : s.put (some t) v = s := by
  have : Go.Vm.upd s.env t v = s.env := by
    funext k
    by_cases hk : k = t
    · subst hk; rw [upd_same, h]
    · rw [upd_ne _ _ hk]
  show (⟨Go.Vm.upd s.env t v, s.hp⟩ : St) = s
  rw [this]

theorem Inv.tmp_bool (h : Inv X w0 st0 ρ0 φ0 s0 a w s) {t : Nat} {b : Bool} (ht : s.env t = .val .bool b) : a.tmps[t]? = some (.bool b) := by
  obtain ⟨st, ρ, φ, h1, _⟩ := h
  have := h1.env t
  rw [ht] at this
  have := bool_of_RV this
  rw [Array.getD_eq_getD_getElem?] at this
  cases hx : a.tmps[t]? with
  | none => rw [hx] at this; simp [undef] at this
  | some v => rw [hx] at this; simp at this; rw [this]

theorem split_known {R : Type} {ops : Array Oper} {f : St → Option R} {y : R} (h : splitG ops o s f = some y) : f s = some y := by
  unfold splitG at h
  split at h
  · exact h
  · split at h
    · rename_i t _
      split at h
      · rename_i b hb
        cases b
        · simp only [cond_false] at h; rwa [put_known hb] at h
        · simp only [cond_true] at h; rwa [put_known hb] at h
      · exact h
      · cases h
    · cases h

theorem wanted_known {ops : Array Oper} {x : Bool} (h : Inv X w0 st0 ρ0 φ0 s0 a w s) (hw : wantedA ops o s = some x) : Region.wanted o (yielded ops a.tmps) = x := by
  unfold wantedA at hw
  unfold Region.wanted
  cases hg : o.guard with
  | none => rw [hg] at hw; simp only at hw; cases hw; rfl
  | some p =>
    obtain ⟨j, want⟩ := p
    rw [hg] at hw; simp only at hw
    cases ho : opDst ops j with
    | none => rw [ho] at hw; cases hw
    | some t =>
      rw [ho] at hw; simp only at hw
      split at hw
      · rename_i b hb
        cases hw
        have := h.tmp_bool hb
        have hy : yielded ops a.tmps j = some b := by
          unfold opDst at ho
          unfold yielded
          rw [ho]; simp [this]
        simp only [hy]
        cases b <;> cases want <;> rfl
      · rename_i hb
        cases hw
        have hu : a.tmps.getD t undef = .tuple #[] := by
          obtain ⟨st, ρ, φ, h1, _⟩ := h
          have := h1.env t
          rw [hb] at this
          rcases this with ⟨_, vs, e, hr⟩ | ⟨h2, _⟩
          · rw [e]
            have hr : vs.toList = [] := hr
            simp at hr; rw [hr]
          · cases h2
        have hy : yielded ops a.tmps j = none := by
          unfold opDst at ho
          unfold yielded
          rw [ho]
          rw [Array.getD_eq_getD_getElem?] at hu
          cases hx : a.tmps[t]? with
          | none => simp [hx]
          | some v => rw [hx] at hu; simp at hu; simp [hx, hu]
        simp only [hy]
        rfl
      · cases hw

theorem evOps_ok {R : Type} (hA : TyAll P X) (hC : ConOk P X) {ops : Array Oper} {K : St → Option R} {y0 : R} {Q : Exit → Act → World → Prop}
    (hK : ∀ a w s, Inv X w0 st0 ρ0 φ0 s0 a w s → K s = some y0 → Q .normal a w) : ∀ (l : List Oper) (a : Act) (w : World) (s : St), Inv X w0 st0 ρ0 φ0 s0 a w s → evOps X ops l s K = some y0 → wpList P ops Q l a w
  | [], a, w, s, hi, h => hK a w s hi h
  | o :: l, a, w, s, hi, h => by
    simp only [evOps] at h
    have h := split_known h
    cases hg : gstep X ops o s with
    | none => rw [hg] at h; cases h
    | some p =>
      obtain ⟨c, s2⟩ := p
      rw [hg] at h; simp only at h
      cases c
      · cases h
      simp only [cond_true] at h
      unfold gstep at hg
      cases hw : wantedA ops o s with
      | none => rw [hw] at hg; cases hg
      | some x =>
        rw [hw] at hg; simp only at hg
        have hwk := wanted_known hi hw
        show (if Region.wanted o (yielded ops a.tmps) then _ else _)
        rw [hwk]
        cases x
        · simp only [cond_false] at hg
          cases hd : dstOk X o.dst <;> rw [hd] at hg
          · cases hg
          simp only [cond_true, Option.some.injEq, Prod.mk.injEq, true_and] at hg
          subst hg
          simp only [Bool.false_eq_true, if_false]
          exact evOps_ok hA hC hK l _ w _ (hi.skip hd) h
        · simp only [cond_true] at hg
          simp only [if_true]
          exact .inl (hi.step hA hC hg fun v w' hi' => evOps_ok hA hC hK l _ w' _ hi' h)

end
end Go.Vm
