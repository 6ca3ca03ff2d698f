/- Code. -/
import Derived.Test.YtkjimaolpijoiaaVm23
set_option linter.unusedVariables false
set_option linter.unusedSimpArgs false
namespace Go.Vm

def Ex.to : Ex → Exit
  | .normal => .normal
  | .exit id => .exit id
  | .ret => .ret

/-- The loop at a place (q: outermost first; p: the way so far); J: what holds at the heads around it. -/
def loopW (P : Program) (J : List Bool → Act → World → Prop) : Code → List Bool → List Bool → (Exit → Act → World → Prop) → Act → World → Prop
  | .seq a b, false :: q, p, Q => loopW P J a q (false :: p) (Exit.then (b.wp P Q) Q)
  | .seq _ b, true :: q, p, Q => loopW P J b q (true :: p) Q
  | .cond _ a _, false :: q, p, Q => loopW P J a q (false :: p) Q
  | .cond _ _ b, true :: q, p, Q => loopW P J b q (true :: p) Q
  | .block id b, false :: q, p, Q => loopW P J b q (false :: p) (Exit.inBlock id Q)
  | .loop b, [], _, Q => (Code.loop b).wp P Q
  | .loop b, false :: q, p, Q => loopW P J b q (false :: p) (Exit.then (J p) Q)
  | _, _, _, _ => fun _ _ => False

/-- One round of it. -/
def roundW (P : Program) (J : List Bool → Act → World → Prop) (J1 : Act → World → Prop) : Code → List Bool → List Bool → (Exit → Act → World → Prop) → Act → World → Prop
  | .seq a b, false :: q, p, Q => roundW P J J1 a q (false :: p) (Exit.then (b.wp P Q) Q)
  | .seq _ b, true :: q, p, Q => roundW P J J1 b q (true :: p) Q
  | .cond _ a _, false :: q, p, Q => roundW P J J1 a q (false :: p) Q
  | .cond _ _ b, true :: q, p, Q => roundW P J J1 b q (true :: p) Q
  | .block id b, false :: q, p, Q => roundW P J J1 b q (false :: p) (Exit.inBlock id Q)
  | .loop b, [], _, Q => b.wp P (Exit.then J1 Q)
  | .loop b, false :: q, p, Q => roundW P J J1 b q (false :: p) (Exit.then (J p) Q)
  | _, _, _, _ => fun _ _ => False

theorem then_mono {K K' : Act → World → Prop} {Q Q' : Exit → Act → World → Prop} (hK : ∀ a w, K a w → K' a w) (hQ : ∀ e a w, Q e a w → Q' e a w) : ∀ e a w, Exit.then K Q e a w → Exit.then K' Q' e a w := by
  intro e a w h
  cases e with
  | normal => exact hK a w h
  | _ => exact hQ _ a w h

theorem inBlock_mono {id : Nat} {Q Q' : Exit → Act → World → Prop} (hQ : ∀ e a w, Q e a w → Q' e a w) : ∀ e a w, Exit.inBlock id Q e a w → Exit.inBlock id Q' e a w := by
  intro e a w h
  cases e with
  | exit i =>
    simp only [Exit.inBlock] at h ⊢
    split
    · rename_i hi; rw [if_pos hi] at h; exact hQ _ a w h
    · rename_i hi; rw [if_neg hi] at h; exact hQ _ a w h
  | _ => exact hQ _ a w h

section
variable {P : Program} {J J' : List Bool → Act → World → Prop}

theorem loopW_mono (hJ : ∀ p a w, J p a w → J' p a w) : ∀ {c : Code} {q p : List Bool} {Q Q' : Exit → Act → World → Prop} {a : Act} {w : World}, (∀ e a w, Q e a w → Q' e a w) → loopW P J c q p Q a w → loopW P J' c q p Q' a w := by
  intro c
  induction c with
  | seq x y ihx ihy =>
    intro q p Q Q' a w hQ h
    match q, h with
    | false :: q, h => exact ihx (then_mono (fun a w h => Code.wp_mono hQ h) hQ) h
    | true :: q, h => exact ihy hQ h
  | cond o x y ihx ihy =>
    intro q p Q Q' a w hQ h
    match q, h with
    | false :: q, h => exact ihx hQ h
    | true :: q, h => exact ihy hQ h
  | block id x ih =>
    intro q p Q Q' a w hQ h
    match q, h with
    | false :: q, h => exact ih (inBlock_mono hQ) h
  | loop x ih =>
    intro q p Q Q' a w hQ h
    match q, h with
    | [], h => exact Code.wp_mono hQ h
    | false :: q, h => exact ih (then_mono (fun a w h => hJ p a w h) hQ) h
  | _ => intro q p Q Q' a w hQ h; simp [loopW] at h

theorem roundW_mono {J1 J1' : Act → World → Prop} (hJ : ∀ p a w, J p a w → J' p a w) (hJ1 : ∀ a w, J1 a w → J1' a w) : ∀ {c : Code} {q p : List Bool} {Q Q' : Exit → Act → World → Prop} {a : Act} {w : World}, (∀ e a w, Q e a w → Q' e a w) → roundW P J J1 c q p Q a w → roundW P J' J1' c q p Q' a w := by
  intro c
  induction c with
  | seq x y ihx ihy =>
    intro q p Q Q' a w hQ h
    match q, h with
    | false :: q, h => exact ihx (then_mono (fun a w h => Code.wp_mono hQ h) hQ) h
    | true :: q, h => exact ihy hQ h
  | cond o x y ihx ihy =>
    intro q p Q Q' a w hQ h
    match q, h with
    | false :: q, h => exact ihx hQ h
    | true :: q, h => exact ihy hQ h
  | block id x ih =>
    intro q p Q Q' a w hQ h
    match q, h with
    | false :: q, h => exact ih (inBlock_mono hQ) h
  | loop x ih =>
    intro q p Q Q' a w hQ h
    match q, h with
    | [], h => exact Code.wp_mono (then_mono hJ1 hQ) h
    | false :: q, h => exact ih (then_mono (fun a w h => hJ p a w h) hQ) h
  | _ => intro q p Q Q' a w hQ h; simp [roundW] at h

/-- Rounds that each come nearer make a loop. -/
theorem loopW_of_rounds {I : Act → World → Prop} {μ : Act → World → Nat} : ∀ {c : Code} {q p : List Bool} {Q : Exit → Act → World → Prop}, (∀ a w, I a w → roundW P J (fun a' w' => I a' w' ∧ μ a' w' < μ a w) c q p Q a w) →
    ∀ {a : Act} {w : World}, I a w → loopW P J c q p Q a w := by
  intro c
  induction c with
  | seq x y ihx ihy =>
    intro q p Q hr a w hi
    match q, hr with
    | false :: q, hr => exact ihx hr hi
    | true :: q, hr => exact ihy hr hi
    | [], hr => exact (hr a w hi).elim
  | cond o x y ihx ihy =>
    intro q p Q hr a w hi
    match q, hr with
    | false :: q, hr => exact ihx hr hi
    | true :: q, hr => exact ihy hr hi
    | [], hr => exact (hr a w hi).elim
  | block id x ih =>
    intro q p Q hr a w hi
    match q, hr with
    | false :: q, hr => exact ih hr hi
    | true :: q, hr => exact (hr a w hi).elim
    | [], hr => exact (hr a w hi).elim
  | loop x ih =>
    intro q p Q hr a w hi
    match q, hr with
    | [], hr => exact wp_loop I μ hi hr
    | false :: q, hr => exact ih hr hi
    | true :: q, hr => exact (hr a w hi).elim
  | _ => intro q p Q hr a w hi; have := hr a w hi; simp [roundW] at this

end

section
variable {P : Program} {X : Ctx} {w0 : World} {st0 : Blks} {ρ0 : Nat → Value} {φ0 : Nat → Blks} {s0 : St} {R : Type} {y0 : R} {M : List Bool → St → Option R} {J : List Bool → Act → World → Prop}

def KOk (X : Ctx) (w0 : World) (st0 : Blks) (ρ0 : Nat → Value) (φ0 : Nat → Blks) (s0 : St) (y0 : R) (K : Ex → St → Option R) (Q : Exit → Act → World → Prop) : Prop :=
  ∀ e s a w, Inv X w0 st0 ρ0 φ0 s0 a w s → K e s = some y0 → Q e.to a w

theorem rev_false (b : Bool) (q p : List Bool) : (b :: q).reverse ++ p = q.reverse ++ (b :: p) := by simp

theorem KOk.seq {K : Ex → St → Option R} {Q : Exit → Act → World → Prop} (hK : KOk X w0 st0 ρ0 φ0 s0 y0 K Q) {L : St → Option R} {N : Act → World → Prop} (hL : ∀ a w s, Inv X w0 st0 ρ0 φ0 s0 a w s → L s = some y0 → N a w) :
    KOk X w0 st0 ρ0 φ0 s0 y0 (fun e s' => match e with | .normal => L s' | e => K e s') (Exit.then N Q) := by
  intro e s a w hi h
  cases e with
  | normal => exact hL a w s hi h
  | exit i => exact hK (.exit i) s a w hi h
  | ret => exact hK .ret s a w hi h

theorem KOk.block {K : Ex → St → Option R} {Q : Exit → Act → World → Prop} (hK : KOk X w0 st0 ρ0 φ0 s0 y0 K Q) (id : Nat) :
    KOk X w0 st0 ρ0 φ0 s0 y0 (fun e s' => match e with | .exit i => bif Nat.beq i id then K .normal s' else K (.exit i) s' | e => K e s') (Exit.inBlock id Q) := by
  intro e s a w hi h
  cases e with
  | normal => exact hK .normal s a w hi h
  | ret => exact hK .ret s a w hi h
  | exit i =>
    show (if i = id then Q .normal a w else Q (.exit i) a w)
    simp only at h
    by_cases hid : i = id
    · rw [if_pos hid]
      rw [hid, beq_self] at h
      exact hK .normal s a w hi h
    · rw [if_neg hid]
      rw [beq_ne hid] at h
      exact hK (.exit i) s a w hi h

theorem ev_ok (hA : TyAll P X) (hC : ConOk P X) (hmix : P.follows .mixedOrders = true) : ∀ {c : Code} {p : List Bool} {K : Ex → St → Option R} {Q : Exit → Act → World → Prop}, KOk X w0 st0 ρ0 φ0 s0 y0 K Q →
    (∀ q a w s, Inv X w0 st0 ρ0 φ0 s0 a w s → M (q.reverse ++ p) s = some y0 → loopW P J c q p Q a w) → ∀ {a : Act} {w : World} {s : St}, Inv X w0 st0 ρ0 φ0 s0 a w s → ev X M c p K s = some y0 → c.wp P Q a w := by
  intro c
  induction c with
  | skip => intro p K Q hK hM a w s hi h; exact wp_skip (hK .normal s a w hi h)
  | region id ops draw =>
    intro p K Q hK hM a w s hi h
    simp only [ev] at h
    cases hf : s.fzSlots (X.fz id) with
    | none => rw [hf] at h; cases h
    | some s1 =>
      rw [hf] at h; simp only at h
      have hi1 := hi.fzSlots hf
      cases draw
      · simp only [cond_false] at h
        exact wp_region_list (evOps_ok hA hC (fun a w s hi h => hK .normal s a w hi h) _ _ _ _ hi1 h)
      · simp only [cond_true] at h
        exact evDraw_ok hA hC hmix (fun a w s hi h => hK .normal s a w hi h) hi1 h
  | seq x y ihx ihy =>
    intro p K Q hK hM a w s hi h
    refine wp_seq (ihx (hK.seq fun a w s hi h => ihy hK (fun q a w s hi hm => hM (true :: q) a w s hi (by rw [rev_false]; exact hm)) hi h) (fun q a w s hi hm => hM (false :: q) a w s hi (by rw [rev_false]; exact hm)) hi h)
  | cond o x y ihx ihy =>
    intro p K Q hK hM a w s hi h
    cases o with
    | tmp t =>
      simp only [ev] at h
      split at h
      · rename_i c hc
        have hev : a.eval (.tmp t) = .bool c := by
          obtain ⟨st, ρ, φ, h1, _⟩ := hi
          have := opnd_RV h1 0 (.tmp t)
          have e : rho X s.env 0 (.tmp t) = s.env t := rfl
          rw [e, hc] at this
          exact bool_of_RV this
        cases c
        · simp only [cond_false] at h
          rw [put_known hc] at h
          exact wp_cond_false hev (ihy hK (fun q a w s hi hm => hM (true :: q) a w s hi (by rw [rev_false]; exact hm)) hi h)
        · simp only [cond_true] at h
          rw [put_known hc] at h
          exact wp_cond_true hev (ihx hK (fun q a w s hi hm => hM (false :: q) a w s hi (by rw [rev_false]; exact hm)) hi h)
      · rename_i e hc
        obtain ⟨c, hev, hce⟩ : ∃ c : Bool, a.eval (.tmp t) = .bool c ∧ (c = true → e = true) := by
          obtain ⟨st, ρ, φ, h1, _⟩ := hi
          have := opnd_RV h1 0 (.tmp t)
          have e : rho X s.env 0 (.tmp t) = s.env t := rfl
          rw [e, hc] at this
          obtain ⟨c, h2, h3⟩ := RC_scalar this rfl rfl (by simp)
          exact ⟨c, by simpa using h2, h3⟩
        have goF : ev X M y (true :: p) K s = some y0 → c = false → _ := fun h hc => wp_cond_false (x := x) (y := y) (by rw [hev, hc]) (ihy hK (fun q a w s hi hm => hM (true :: q) a w s hi (by rw [rev_false]; exact hm)) hi h)
        cases e
        · have hcf : c = false := by
            cases c
            · rfl
            · exact absurd (hce rfl) (by simp)
          exact goF h hcf
        · simp only [cond_true] at h
          obtain ⟨ha, hb⟩ := agree_some h
          cases c
          · exact goF hb rfl
          · exact wp_cond_true hev (ihx hK (fun q a w s hi hm => hM (false :: q) a w s hi (by rw [rev_false]; exact hm)) hi ha)
      · cases h
    | _ => simp [ev] at h
  | block id x ih =>
    intro p K Q hK hM a w s hi h
    exact wp_block (ih (hK.block id) (fun q a w s hi hm => hM (false :: q) a w s hi (by rw [rev_false]; exact hm)) hi h)
  | loop x ih =>
    intro p K Q hK hM a w s hi h
    simp only [ev] at h
    cases hm : mask X (X.keep p) s with
    | none => rw [hm] at h; cases h
    | some s1 =>
      rw [hm] at h
      exact hM [] a w s1 (hi.mask hm) h
  | exit id => intro p K Q hK hM a w s hi h; exact wp_exit (hK (.exit id) s a w hi h)
  | ret => intro p K Q hK hM a w s hi h; exact wp_ret (hK .ret s a w hi h)
  | _ => intro p K Q hK hM a w s hi h; simp [ev] at h

theorem evAt_ok (hA : TyAll P X) (hC : ConOk P X) (hmix : P.follows .mixedOrders = true) (hJ : ∀ p a w s, Inv X w0 st0 ρ0 φ0 s0 a w s → M p s = some y0 → J p a w) : ∀ {c : Code} {q p : List Bool} {K : Ex → St → Option R} {Q : Exit → Act → World → Prop}, KOk X w0 st0 ρ0 φ0 s0 y0 K Q →
    (∀ q a w s, Inv X w0 st0 ρ0 φ0 s0 a w s → M (q.reverse ++ p) s = some y0 → loopW P J c q p Q a w) → ∀ {a : Act} {w : World} {s : St}, Inv X w0 st0 ρ0 φ0 s0 a w s → evAt X M c q p K s = some y0 → roundW P J (J (q.reverse ++ p)) c q p Q a w := by
  intro c
  induction c with
  | seq x y ihx ihy =>
    intro q p K Q hK hM a w s hi h
    match q, h with
    | false :: q, h =>
      rw [rev_false]
      exact ihx (hK.seq fun a w s hi h => ev_ok hA hC hmix hK (fun q a w s hi hm => hM (true :: q) a w s hi (by rw [rev_false]; exact hm)) hi h) (fun q a w s hi hm => hM (false :: q) a w s hi (by rw [rev_false]; exact hm)) hi h
    | true :: q, h =>
      rw [rev_false]
      exact ihy hK (fun q a w s hi hm => hM (true :: q) a w s hi (by rw [rev_false]; exact hm)) hi h
    | [], h => simp [evAt] at h
  | cond o x y ihx ihy =>
    intro q p K Q hK hM a w s hi h
    match q, h with
    | false :: q, h =>
      rw [rev_false]
      exact ihx hK (fun q a w s hi hm => hM (false :: q) a w s hi (by rw [rev_false]; exact hm)) hi h
    | true :: q, h =>
      rw [rev_false]
      exact ihy hK (fun q a w s hi hm => hM (true :: q) a w s hi (by rw [rev_false]; exact hm)) hi h
    | [], h => simp [evAt] at h
  | block id x ih =>
    intro q p K Q hK hM a w s hi h
    match q, h with
    | false :: q, h =>
      rw [rev_false]
      exact ih (hK.block id) (fun q a w s hi hm => hM (false :: q) a w s hi (by rw [rev_false]; exact hm)) hi h
    | true :: q, h => simp [evAt] at h
    | [], h => simp [evAt] at h
  | loop x ih =>
    intro q p K Q hK hM a w s hi h
    have hK' : KOk X w0 st0 ρ0 φ0 s0 y0 (fun e s' => match e with | .normal => (match mask X (X.keep p) s' with | some s'' => M p s'' | none => none) | e => K e s') (Exit.then (J p) Q) := hK.seq fun a w s hi h => by
      cases hm : mask X (X.keep p) s with
      | none => rw [hm] at h; cases h
      | some s1 => rw [hm] at h; exact hJ p a w s1 (hi.mask hm) h
    match q, h with
    | [], h => exact ev_ok hA hC hmix hK' (fun q a w s hi hm => hM (false :: q) a w s hi (by rw [rev_false]; exact hm)) hi h
    | false :: q, h =>
      rw [rev_false]
      exact ih hK' (fun q a w s hi hm => hM (false :: q) a w s hi (by rw [rev_false]; exact hm)) hi h
    | true :: q, h => simp [evAt] at h
  | _ => intro q p K Q hK hM a w s hi h; simp [evAt] at h

end
end Go.Vm
