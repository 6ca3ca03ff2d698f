/- Functions: exit; and a function whose body evaluates keeps its contract. -/
import Derived.Test.YtkjimaolpijoiaaVm25
set_option linter.unusedVariables false
set_option linter.unusedSimpArgs false
namespace Go.Vm

section
variable {P : Program} {X : Ctx} {w : World} {st st' : Blks} {ρ : Nat → Value} {φ : Nat → Blks} {n : Nat} {a : Act} {s : St}

def pbx : List Mode → Nat → List Nat
  | [], _ => []
  | .pO _ :: r, i => pseed i :: pbx r (i + 1)
  | .pI _ :: r, i => pseed i :: pbx r (i + 1)
  | .imm _ :: r, i => pbx r (i + 1)
  | .own _ :: r, i => pbx r (i + 1)
  | .lend _ _ :: r, i => pbx r (i + 1)
  | .pR _ :: r, i => pbx r (i + 1)
  | .clo _ _ :: r, i => pbx r (i + 1)
  | .loan _ :: r, i => pbx r (i + 1)

theorem pbx_ge : ∀ {ms : List Mode} {i id : Nat}, id ∈ pbx ms i → ∃ j, i ≤ j ∧ id = pseed j
  | m :: ms, i, id, h => by
    have key : id ∈ pbx ms (i + 1) → ∃ j, i ≤ j ∧ id = pseed j := fun h => by
      obtain ⟨j, h1, h2⟩ := pbx_ge h; exact ⟨j, by omega, h2⟩
    cases m with
    | pO S => rcases List.mem_cons.1 h with rfl | h; exact ⟨i, Nat.le_refl _, rfl⟩; exact key h
    | pI S => rcases List.mem_cons.1 h with rfl | h; exact ⟨i, Nat.le_refl _, rfl⟩; exact key h
    | imm S => exact key h
    | own S => exact key h
    | lend T e => exact key h
    | pR S => exact key h
    | clo f ss => exact key h
    | loan S => exact key h

theorem pseed_inj {i j : Nat} (h : pseed i = pseed j) : i = j := by unfold pseed at h; omega

theorem pseed_mod (i : Nat) : pseed i % 10000 = 5000 := by unfold pseed; omega

theorem loan_out (h : Sim w st ρ φ n a s) {ρ0 : Nat → Value} (hρ : ∀ id, id % 10000 = 5000 → s.hp id ≠ .none → ρ id = ρ0 id) : ∀ {S : Sh} {x z : S.den} {cs : List Value} {k : Nat} {D : List Nat}, k % 10000 = 5000 → LoanC ρ0 S x cs k →
    loanOut s.hp S x k = some (z, D) → D.Nodup → Ow w S z cs (fun b => ∃ id ∈ D, φ id b) ∧ ∀ id ∈ D, ∃ T e xs, s.hp id = .arr T e xs
  | .int _, x, z, cs, k, D, hk, hc, ho, hn => by cases ho; exact ⟨hc, by simp⟩
  | .bool, x, z, cs, k, D, hk, hc, ho, hn => by cases ho; exact ⟨hc, by simp⟩
  | .str, x, z, cs, k, D, hk, hc, ho, hn => by cases ho; exact ⟨hc, by simp⟩
  | .unit, x, z, cs, k, D, hk, hc, ho, hn => by cases ho; exact ⟨hc, by simp⟩
  | .sl T e, x, z, cs, k, D, hk, hc, ho, hn => by
    simp only [loanOut] at ho
    cases hq : s.hp k with
    | arr T' e' xs =>
      rw [hq] at ho; simp only at ho
      cases hcs : cst (.sl T' e') (.sl T e) xs with
      | none => rw [hcs] at ho; cases ho
      | some y =>
        rw [hcs] at ho
        cases ho
        obtain ⟨ee, he⟩ := cst_some hcs
        cases ee; cases he
        have hob := h.ob k
        rw [hq] at hob
        have hc : cs = [ρ0 k] := hc
        refine ⟨?_, fun id hid => ?_⟩
        · rw [hc, ← hρ k hk (by rw [hq]; simp)]
          exact Ow_up (fun b hb => ⟨k, by simp, hb⟩) hob
        · simp at hid; subst hid; exact ⟨_, _, _, hq⟩
    | _ => rw [hq] at ho; cases ho
  | .pair p q, x, z, cs, k, D, hk, ⟨c1, c2, hc, hc1, hc2⟩, ho, hn => by
    simp only [loanOut] at ho
    cases e1 : loanOut s.hp p x.1 k with
    | none => rw [e1] at ho; simp at ho
    | some r1 =>
      obtain ⟨y1, l⟩ := r1
      cases e2 : loanOut s.hp q x.2 (k + 10000 * p.nsl) with
      | none => rw [e1, e2] at ho; simp at ho
      | some r2 =>
        obtain ⟨y2, m⟩ := r2
        rw [e1, e2] at ho
        cases ho
        have hn' := List.nodup_append.1 hn
        obtain ⟨g1, g2⟩ := loan_out h hρ hk hc1 e1 hn'.1
        obtain ⟨q1, q2⟩ := loan_out h hρ (by omega) hc2 e2 hn'.2.1
        refine ⟨⟨c1, c2, _, _, hc, ?_, ?_, ?_, g1, q1⟩, fun id hid => ?_⟩
        · rintro b ⟨i, hi, hb⟩ ⟨j, hj, hb'⟩
          have := h.dj i j b hb hb'; subst this
          exact hn'.2.2 i hi i hj rfl
        · rintro b ⟨i, hi, hb⟩; exact ⟨i, by simp [hi], hb⟩
        · rintro b ⟨i, hi, hb⟩; exact ⟨i, by simp [hi], hb⟩
        · rcases List.mem_append.1 hid with hid | hid
          · exact g2 id hid
          · exact q2 id hid

/-- What comes back. -/
theorem back_ok (h : Sim w st ρ φ n a s) (hst : ∀ b, st b → st' b) {ρ0 : Nat → Value} (hρ : ∀ id, id % 10000 = 5000 → s.hp id ≠ .none → ρ id = ρ0 id) : ∀ {ms : List Mode} {x : (insSh ms).den} {vals : List Value} {i : Nat} {y : (backSh ms).den} {D : List Nat}, backOut s.hp ms x i = some (y, D) → ParV ρ0 ms x vals i → D.Nodup →
    (∀ id ∈ pbx ms i, ∃ S v, s.hp id = .box S v) ∧ (∀ id ∈ D, ∃ T e xs, s.hp id = .arr T e xs) ∧ BackR w st' ms y vals (fun b => (∃ id ∈ D, φ id b) ∨ ∃ id ∈ pbx ms i, φ id b)
  | [], x, vals, i, y, D, hb, hp, hn => by cases hb; exact ⟨by simp [pbx], by simp, trivial⟩
  | m :: ms, x, [], i, y, D, hb, hp, hn => hp.elim
  | m :: ms, x, v :: vals, i, y, D, hb, hp, hn => by
    have plain : ∀ {y' : (backSh ms).den}, backOut s.hp ms x.2 (i + 1) = some (y', D) → (∀ id ∈ pbx ms (i + 1), ∃ S v, s.hp id = .box S v) ∧ (∀ id ∈ D, ∃ T e xs, s.hp id = .arr T e xs) ∧ BackR w st' ms y' vals (fun b => (∃ id ∈ D, φ id b) ∨ ∃ id ∈ pbx ms (i + 1), φ id b) :=
      fun hb' => back_ok h hst hρ hb' hp.2 hn
    cases m with
    | imm S => obtain ⟨g1, g2, g3⟩ := plain hb; exact ⟨g1, g2, v, vals, fun _ => False, _, rfl, fun _ h _ => h, fun _ h => h.elim, fun _ h => h, fun z hz => (by cases hz), g3⟩
    | own S => obtain ⟨g1, g2, g3⟩ := plain hb; exact ⟨g1, g2, v, vals, fun _ => False, _, rfl, fun _ h _ => h, fun _ h => h.elim, fun _ h => h, fun z hz => (by cases hz), g3⟩
    | pR S => obtain ⟨g1, g2, g3⟩ := plain hb; exact ⟨g1, g2, v, vals, fun _ => False, _, rfl, fun _ h _ => h, fun _ h => h.elim, fun _ h => h, fun z hz => (by cases hz), g3⟩
    | clo f ss => obtain ⟨g1, g2, g3⟩ := plain hb; exact ⟨g1, g2, v, vals, fun _ => False, _, rfl, fun _ h _ => h, fun _ h => h.elim, fun _ h => h, fun z hz => (by cases hz), g3⟩
    | loan S =>
      simp only [backOut] at hb
      cases hc : loanOut s.hp S x.1 (pseed i) with
      | none => rw [hc] at hb; simp at hb
      | some q =>
        obtain ⟨z, D1⟩ := q
        cases hr : backOut s.hp ms x.2 (i + 1) with
        | none => rw [hc, hr] at hb; simp at hb
        | some p =>
          obtain ⟨y2, E⟩ := p
          rw [hc, hr] at hb
          simp only [Option.some.injEq, Prod.mk.injEq] at hb
          obtain ⟨rfl, rfl⟩ := hb
          have hn' := List.nodup_append.1 hn
          obtain ⟨⟨cs, p1, p2⟩, hp2⟩ := hp
          obtain ⟨g1, g2, g3⟩ := back_ok h hst hρ hr hp2 hn'.2.1
          obtain ⟨k1, k2⟩ := loan_out h hρ (pseed_mod i) p2 hc hn'.1
          refine ⟨g1, fun id hid => ?_, v, vals, fun b => ∃ id ∈ D1, φ id b, _, rfl, ?_, ?_, ?_, fun z' hz => ?_, g3⟩
          · rcases List.mem_append.1 hid with hid | hid
            · exact k2 id hid
            · exact g2 id hid
          · rintro b ⟨j, hj, hb⟩ (⟨j', hj', hjb⟩ | ⟨j', hj', hjb⟩)
            · have := h.dj j j' b hb hjb; subst this; exact hn'.2.2 j hj j hj' rfl
            · have := h.dj j j' b hb hjb; subst this
              obtain ⟨_, _, _, hh⟩ := k2 _ hj
              obtain ⟨_, _, hh2⟩ := g1 _ hj'
              rw [hh] at hh2; cases hh2
          · rintro b ⟨j, hj, hb⟩; exact .inl ⟨j, by simp [hj], hb⟩
          · rintro b (⟨j, hj, hjb⟩ | hb)
            · exact .inl ⟨j, by simp [hj], hjb⟩
            · exact .inr hb
          · cases hz; exact ⟨cs, p1, k1⟩
    | lend T e =>
      simp only [backOut] at hb
      cases hq : s.hp (pseed i) with
      | arr T' e' xs =>
        rw [hq] at hb; simp only at hb
        cases hc : cst (.sl T' e') (.sl T e) xs with
        | none => rw [hc] at hb; simp at hb
        | some z =>
          cases hr : backOut s.hp ms x.2 (i + 1) with
          | none => rw [hc, hr] at hb; simp at hb
          | some p =>
            obtain ⟨y2, E⟩ := p
            rw [hc, hr] at hb
            simp only [Option.some.injEq, Prod.mk.injEq] at hb
            obtain ⟨rfl, rfl⟩ := hb
            obtain ⟨ee, he⟩ := cst_some hc
            cases ee; cases he
            simp only [List.nodup_cons] at hn
            obtain ⟨g1, g2, g3⟩ := back_ok h hst hρ hr hp.2 hn.2
            have hob := h.ob (pseed i)
            rw [hq] at hob
            have hv : ρ (pseed i) = v := by rw [hρ (pseed i) (pseed_mod i) (by rw [hq]; simp)]; exact hp.1
            rw [← hv]
            refine ⟨g1, fun id hid => ?_, ρ (pseed i), vals, φ (pseed i), _, rfl, ?_, fun b hb => .inl ⟨pseed i, by simp, hb⟩, ?_, fun z' hz => ?_, g3⟩
            · rcases List.mem_cons.1 hid with rfl | hid
              · exact ⟨_, _, _, hq⟩
              · exact g2 id hid
            · rintro b hb (⟨j, hj, hjb⟩ | ⟨j, hj, hjb⟩)
              · have := h.dj (pseed i) j b hb hjb; subst this; exact hn.1 hj
              · have := h.dj (pseed i) j b hb hjb; subst this
                obtain ⟨S, u, hh⟩ := g1 _ hj
                rw [hq] at hh; cases hh
            · rintro b (⟨j, hj, hjb⟩ | hb)
              · exact .inl ⟨j, by simp [hj], hjb⟩
              · exact .inr hb
            · cases hz; exact hob
      | _ => rw [hq] at hb; cases hb
    | pO S =>
      simp only [backOut] at hb
      cases hq : s.hp (pseed i) with
      | box S' u =>
        rw [hq] at hb; simp only at hb
        split at hb
        · rename_i hS
          subst hS
          cases hc : absorb s.hp S' u with
          | none => rw [hc] at hb; simp at hb
          | some q =>
            obtain ⟨z, D1⟩ := q
            cases hr : backOut s.hp ms x.2 (i + 1) with
            | none => rw [hc, hr] at hb; simp at hb
            | some p =>
              obtain ⟨y2, E⟩ := p
              rw [hc, hr] at hb
              simp only [Option.some.injEq, Prod.mk.injEq] at hb
              obtain ⟨rfl, rfl⟩ := hb
              have hn' := List.nodup_append.1 hn
              obtain ⟨g1, g2, g3⟩ := back_ok h hst hρ hr hp.2 hn'.2.1
              have hob := h.ob (pseed i)
              rw [hq] at hob
              obtain ⟨b, arr, T, k1, k2, k3, k4, k5⟩ := hob
              have hv : ρ (pseed i) = v := by rw [hρ (pseed i) (pseed_mod i) (by rw [hq]; simp)]; exact hp.1
              have hD1 : ∀ id ∈ D1, ∃ T e xs, s.hp id = .arr T e xs := fun id hid => by
                have hids := (absorb_ids hc id hid).1
                exact Fit_ids k4 hids
              have hOw := absorb_Ow h (fun _ _ => rfl) hc hn'.1 k5
              refine ⟨fun id hid => ?_, fun id hid => ?_, v, vals, fun b => φ (pseed i) b ∨ ∃ id ∈ D1, φ id b, _, rfl, ?_, ?_, ?_, fun z' hz => ?_, g3⟩
              · rcases List.mem_cons.1 hid with rfl | hid
                · exact ⟨_, _, hq⟩
                · exact g1 id hid
              · rcases List.mem_append.1 hid with hid | hid
                · exact hD1 id hid
                · exact g2 id hid
              · intro b' hb1 hb2
                obtain ⟨p, hp', hpb⟩ : ∃ p, (p = pseed i ∨ p ∈ D1) ∧ φ p b' := by
                  rcases hb1 with hb | ⟨j, hj, hb⟩
                  · exact ⟨_, .inl rfl, hb⟩
                  · exact ⟨j, .inr hj, hb⟩
                obtain ⟨q, hq', hqb⟩ : ∃ q, (q ∈ E ∨ q ∈ pbx ms (i + 1)) ∧ φ q b' := by
                  rcases hb2 with ⟨j, hj, hb⟩ | ⟨j, hj, hb⟩
                  · exact ⟨j, .inl hj, hb⟩
                  · exact ⟨j, .inr hj, hb⟩
                have := h.dj p q b' hpb hqb; subst this
                rcases hp' with rfl | hp' <;> rcases hq' with hq' | hq'
                · obtain ⟨_, _, _, hh⟩ := g2 _ hq'; rw [hq] at hh; cases hh
                · obtain ⟨j, hj, he⟩ := pbx_ge hq'
                  have := pseed_inj he; omega
                · exact hn'.2.2 p hp' p hq' rfl
                · obtain ⟨_, _, _, hh⟩ := hD1 _ hp'
                  obtain ⟨_, _, hh2⟩ := g1 _ hq'
                  rw [hh] at hh2; cases hh2
              · rintro b' (hb | ⟨j, hj, hb⟩)
                · exact .inr ⟨pseed i, by simp [pbx], hb⟩
                · exact .inl ⟨j, by simp [hj], hb⟩
              · rintro b' (⟨j, hj, hb⟩ | ⟨j, hj, hb⟩)
                · exact .inl ⟨j, by simp [hj], hb⟩
                · exact .inr ⟨j, by simp [pbx, hj], hb⟩
              · cases hz
                refine ⟨b, arr, T, fun b => ∃ id ∈ D1, φ id b, by rw [← hv, k1], .inl k2, k3, hOw, ?_, fun c hc => .inr hc⟩
                rintro ⟨j, hj, hjb⟩
                have := h.dj (pseed i) j b k2 hjb; subst this
                obtain ⟨_, _, _, hh⟩ := hD1 _ hj
                rw [hq] at hh; cases hh
        · cases hb
      | _ => rw [hq] at hb; cases hb
    | pI S =>
      simp only [backOut] at hb
      cases hq : s.hp (pseed i) with
      | box S' u =>
        rw [hq] at hb
        cases u with
        | val sv xv =>
          simp only at hb
          split at hb
          · rename_i hS
            subst hS
            cases hc : cst sv S' xv with
            | none => rw [hc] at hb; simp at hb
            | some z =>
              cases hr : backOut s.hp ms x.2 (i + 1) with
              | none => rw [hc, hr] at hb; simp at hb
              | some p =>
                obtain ⟨y2, E⟩ := p
                rw [hc, hr] at hb
                simp only [Option.some.injEq, Prod.mk.injEq] at hb
                obtain ⟨rfl, rfl⟩ := hb
                obtain ⟨ee, he⟩ := cst_some hc
                subst ee; cases he
                obtain ⟨g1, g2, g3⟩ := back_ok h hst hρ hr hp.2 hn
                have hob := h.ob (pseed i)
                rw [hq] at hob
                obtain ⟨b, arr, T, k1, k2, k3, k4, k5⟩ := hob
                have hv : ρ (pseed i) = v := by rw [hρ (pseed i) (pseed_mod i) (by rw [hq]; simp)]; exact hp.1
                refine ⟨fun id hid => ?_, g2, v, vals, φ (pseed i), _, rfl, ?_, ?_, ?_, fun z' hz => ?_, g3⟩
                · rcases List.mem_cons.1 hid with rfl | hid
                  · exact ⟨_, _, hq⟩
                  · exact g1 id hid
                · rintro b' hb (⟨j, hj, hjb⟩ | ⟨j, hj, hjb⟩)
                  · have := h.dj (pseed i) j b' hb hjb; subst this
                    obtain ⟨_, _, _, hh⟩ := g2 _ hj; rw [hq] at hh; cases hh
                  · have := h.dj (pseed i) j b' hb hjb; subst this
                    obtain ⟨k, hk, he⟩ := pbx_ge hj
                    have := pseed_inj he; omega
                · intro b' hb; exact .inr ⟨pseed i, by simp [pbx], hb⟩
                · rintro b' (hb | ⟨j, hj, hb⟩)
                  · exact .inl hb
                  · exact .inr ⟨j, by simp [pbx, hj], hb⟩
                · cases hz
                  exact ⟨b, arr, T, by rw [← hv, k1], k2, k3, Im_up hst k5⟩
          · cases hb
        | _ => simp at hb
      | _ => rw [hq] at hb; cases hb

theorem immAV_val {hp : Nat → Ob} : ∀ {v u : AV} {l : List Nat}, immAV hp v = some (u, l) → ∃ t y, u = .val t y := by
  intro v
  induction v with
  | val t x => intro u l h; cases h; exact ⟨_, _, rfl⟩
  | nilv T e => intro u l h; cases h; exact ⟨_, _, rfl⟩
  | sref id ix p =>
    intro u l h
    cases ix with
    | some i =>
      simp only [immAV] at h
      cases hq : hp id with
      | arr T e xs =>
        rw [hq] at h; simp only at h
        split at h
        · cases h; exact ⟨_, _, rfl⟩
        · cases h
      | _ => rw [hq] at h; cases h
    | none =>
      cases p with
      | cons _ _ => simp [immAV] at h
      | nil =>
        simp only [immAV] at h
        cases hq : hp id with
        | arr T e xs => rw [hq] at h; cases h; exact ⟨_, _, rfl⟩
        | _ => rw [hq] at h; cases h
  | pair p q ihp ihq =>
    intro u l h
    simp only [immAV] at h
    cases h1 : immAV hp p with
    | none => rw [h1] at h; simp at h
    | some r1 =>
      obtain ⟨u1, l1⟩ := r1
      cases h2 : immAV hp q with
      | none => rw [h1, h2] at h; simp at h
      | some r2 =>
        obtain ⟨u2, l2⟩ := r2
        rw [h1, h2] at h
        simp only [Option.some.injEq, Prod.mk.injEq] at h
        obtain ⟨rfl, rfl⟩ := h
        obtain ⟨t1, y1, rfl⟩ := ihp h1
        obtain ⟨t2, y2, rfl⟩ := ihq h2
        exact ⟨_, _, rfl⟩
  | _ => intro u l h; cases h

def resF (tmps : Array Value) : ResultVar → Sem Value
  | .tmp t => pure (tmps.getD t undef)
  | .cell q t => do loadVar t (← asAddr (tmps.getD q undef))

/-- A result's value. -/
theorem retAV_ok (hA : TyAll P X) (h : Sim w st ρ φ n a s) {r : ResultVar} {av : AV} (hr : retAV X s r = some av) :
    ∃ u, (resF a.tmps r).run P w = .ok u w ∧ RV w st ρ s.hp av u := by
  cases r with
  | tmp t => cases hr; exact ⟨_, rfl, h.env t⟩
  | cell q T =>
    simp only [retAV] at hr
    cases hv : s.env q with
    | ptr id ix p =>
      rw [hv] at hr
      cases ix with
      | some _ => simp at hr
      | none =>
        cases p with
        | cons _ _ => simp at hr
        | nil =>
          cases hT : X.ty T with
          | none => rw [hT] at hr; simp at hr
          | some p =>
            obtain ⟨S, nf⟩ := p
            rw [hT] at hr; simp only at hr
            cases hq : s.hp id with
            | box S' u =>
              rw [hq] at hr; simp only at hr
              split at hr
              · rename_i hS
                subst hS
                cases hr
                have henv := h.env q
                rw [hv] at henv
                obtain ⟨b, arr, T', h1, h2, h3, h4, h5, h6⟩ := box_ptr h hq henv
                obtain ⟨u, g1, g2⟩ := (hA T S' nf hT).loadVar (w := w) (b := b) (o := 0) (RC_len h5 h6) (fun j v hj => by
                  have := slice_cells (o := 0) (sz := arr.toList.length) h4 j v (by rw [List.drop_zero, List.take_length]; exact hj)
                  simpa using this)
                refine ⟨u, ?_, RV_of_RC h5 h6 g1⟩
                simp [resF, h1, asAddr, g2]
              · cases hr
            | _ => rw [hq] at hr; cases hr
    | _ => rw [hv] at hr; simp at hr

theorem ret_ok (hA : TyAll P X) (h : Sim w st ρ φ n a s) {ρ0 : Nat → Value} (hρ : ∀ id, id % 10000 = 5000 → s.hp id ≠ .none → ρ id = ρ0 id) {ms : List Mode} {x : (insSh ms).den} {vals : List Value} (hp : ParV ρ0 ms x vals 0) :
    ∀ {rs : List (RK × Sh)} {vars : List ResultVar} {o : Out rs ms}, retOut X s rs ms x vars = some o → o.own.Nodup → (∀ b, st b → st' b) → (∀ id ∈ o.fr, ∀ b, φ id b → st' b) →
      (∀ id ∈ pbx ms 0, ∃ S v, s.hp id = .box S v) ∧ (∀ id ∈ o.fr, ∃ T e xs, s.hp id = .arr T e xs) ∧
      ∃ us, (vars.mapM (resF a.tmps)).run P w = .ok us w ∧
        ResR w st' rs ms o.y us vals (fun b => (∃ id ∈ o.own, φ id b) ∨ ∃ id ∈ pbx ms 0, φ id b)
  | [], [], o, ho, hn, hst, hfr => by
    simp only [retOut] at ho
    cases hb : backOut s.hp ms x 0 with
    | none => rw [hb] at ho; cases ho
    | some p =>
      obtain ⟨y, D⟩ := p
      rw [hb] at ho; cases ho
      obtain ⟨g1, g2, g3⟩ := back_ok h hst hρ hb hp hn
      exact ⟨g1, by simp, [], by simp, rfl, g3⟩
  | [], _ :: _, o, ho, hn, hst, hfr => by simp [retOut] at ho
  | (.own, S) :: rs, [], o, ho, hn, hst, hfr => by simp [retOut] at ho
  | (.new, S) :: rs, [], o, ho, hn, hst, hfr => by simp [retOut] at ho
  | (.imm, S) :: rs, [], o, ho, hn, hst, hfr => by simp [retOut] at ho
  | (.own, S) :: rs, v :: vs, o, ho, hn, hst, hfr => by
    simp only [retOut] at ho
    cases h1 : retAV X s v with
    | none => rw [h1] at ho; simp at ho
    | some av =>
      cases h2 : retOut X s rs ms x vs with
      | none => rw [h1, h2] at ho; simp at ho
      | some o' =>
        rw [h1, h2] at ho; simp only at ho
        cases h3 : absorb s.hp S av with
        | none => rw [h3] at ho; cases ho
        | some p =>
          obtain ⟨y, D⟩ := p
          rw [h3] at ho; cases ho
          have hn' := List.nodup_append.1 hn
          obtain ⟨u, g1, g2⟩ := retAV_ok hA h h1
          obtain ⟨q1, q2, us, q3, q4⟩ := ret_ok hA h hρ hp h2 hn'.2.1 hst hfr
          obtain ⟨cs, k1, k2⟩ := absorb_RV h3 g2
          have hOw := absorb_Ow h (fun _ _ => rfl) h3 hn'.1 k2
          have hD : ∀ id ∈ D, ∃ T e xs, s.hp id = .arr T e xs := by
            have key : ∀ {v : AV} {S : Sh} {x : S.den} {D : List Nat}, absorb s.hp S v = some (x, D) → ∀ id ∈ D, ∃ T e xs, s.hp id = .arr T e xs := by
              intro v
              induction v with
              | val t y => intro S x D h id hid; obtain ⟨_, _, _, rfl⟩ := absorb_val h; cases hid
              | pair p q ihp ihq =>
                intro S x D h id hid
                cases S with
                | pair a b =>
                  obtain ⟨y, z, l, m, e1, e2, _, rfl⟩ := absorb_pair h
                  rcases List.mem_append.1 hid with hid | hid
                  · exact ihp e1 id hid
                  · exact ihq e2 id hid
                | _ => simp [absorb] at h
              | nilv T e =>
                intro S x D h id hid
                cases S with
                | sl T' e' => obtain ⟨_, rfl⟩ := absorb_nil h; cases hid
                | _ => simp [absorb] at h
              | sref j ix p =>
                intro S x D h id hid
                cases S with
                | sl T' e' =>
                  obtain ⟨_, _, rfl, hq⟩ := absorb_sref h
                  simp at hid; subst hid; exact ⟨_, _, _, hq⟩
                | _ => simp [absorb] at h
              | _ => intro S x D h; cases S <;> simp [absorb] at h
            exact key h3
          refine ⟨q1, fun id hid => ?_, u :: us, ?_, u, us, fun b => ∃ id ∈ D, φ id b, _, cs, rfl, ?_, ?_, ?_, k1, hOw, q4⟩
          · exact q2 id hid
          · rw [List.mapM_cons]
            simp only [Sem.run_bind]
            rw [g1]
            simp only [Result.andThen]
            rw [q3]
            rfl
          · rintro b ⟨j, hj, hjb⟩ (⟨k, hk, hkb⟩ | ⟨k, hk, hkb⟩)
            · have := h.dj j k b hjb hkb; subst this
              exact hn'.2.2 j hj j hk rfl
            · have := h.dj j k b hjb hkb; subst this
              obtain ⟨_, _, _, hh⟩ := hD j hj
              obtain ⟨_, _, hh2⟩ := q1 j hk
              rw [hh] at hh2; cases hh2
          · rintro b ⟨j, hj, hjb⟩; exact .inl ⟨j, by simp [hj], hjb⟩
          · rintro b (⟨k, hk, hkb⟩ | hb)
            · exact .inl ⟨k, by simp [hk], hkb⟩
            · exact .inr hb
  | (.new, S) :: rs, v :: vs, o, ho, hn, hst, hfr => by
    simp only [retOut] at ho
    cases h1 : retAV X s v with
    | none => rw [h1] at ho; simp at ho
    | some av =>
      cases h2 : retOut X s rs ms x vs with
      | none => rw [h1, h2] at ho; simp at ho
      | some o' =>
        rw [h1, h2] at ho
        cases av with
        | ptr id ix p =>
          cases ix with
          | some _ => simp at ho
          | none =>
            cases p with
            | cons _ _ => simp at ho
            | nil =>
              simp only at ho
              cases hq : s.hp id with
              | box S' u =>
                rw [hq] at ho; simp only at ho
                split at ho
                · rename_i hS
                  subst hS
                  cases h3 : immAV s.hp u with
                  | none => rw [h3] at ho; cases ho
                  | some p =>
                    obtain ⟨uv, l⟩ := p
                    rw [h3] at ho; simp only at ho
                    cases h4 : toVal s.hp S' uv with
                    | none => rw [h4] at ho; cases ho
                    | some y =>
                      rw [h4] at ho; simp only at ho
                      cases h5 : Nat.blt (id % 10000) 5000 <;> rw [h5] at ho
                      · cases ho
                      cases ho
                      have h5 : id % 10000 < 5000 := by simpa [Nat.blt_eq] using h5
                      obtain ⟨t, yy, rfl⟩ := immAV_val h3
                      have h4' : cst t S' yy = some y := by cases S' <;> exact h4
                      obtain ⟨ee, he⟩ := cst_some h4'
                      subst ee; cases he
                      obtain ⟨uu, g1, g2⟩ := retAV_ok hA h h1
                      simp only [List.nodup_cons] at hn
                      obtain ⟨q1, q2, us, q3, q4⟩ := ret_ok hA h hρ hp h2 hn.2 hst (fun id hid => hfr id (by simp [hid]))
                      obtain ⟨b, arr, T, b1, b2, b3, b4, b5, b6⟩ := box_ptr h hq g2
                      obtain ⟨k1, _, k3, _, _, _, k7⟩ := immAV_ok h hst s.hp ρ h3 b6 (fun id hid => hfr id (by simp [hid]))
                      refine ⟨q1, fun j hj => ?_, uu :: us, ?_, uu, us, φ id, _, rfl, ?_, ?_, ?_, ⟨b, arr, T, b1, b3, b4, k1⟩, q4⟩
                      · rcases List.mem_append.1 hj with hj | hj
                        · exact k7 j hj
                        · exact q2 j hj
                      · rw [List.mapM_cons]
                        simp only [Sem.run_bind]
                        rw [g1]
                        simp only [Result.andThen]
                        rw [q3]
                        rfl
                      · rintro b' hb (⟨k, hk, hkb⟩ | ⟨k, hk, hkb⟩)
                        · have := h.dj id k b' hb hkb; subst this
                          exact hn.1 hk
                        · have := h.dj id k b' hb hkb; subst this
                          obtain ⟨j, _, rfl⟩ := pbx_ge hk
                          have := pseed_mod j
                          omega
                      · intro b' hb; exact .inl ⟨id, by simp, hb⟩
                      · rintro b' (⟨k, hk, hkb⟩ | hb)
                        · exact .inl ⟨k, by simp [hk], hkb⟩
                        · exact .inr hb
                · cases ho
              | _ => rw [hq] at ho; cases ho
        | _ => simp at ho
  | (.imm, S) :: rs, v :: vs, o, ho, hn, hst, hfr => by
    simp only [retOut] at ho
    cases h1 : retAV X s v with
    | none => rw [h1] at ho; simp at ho
    | some av =>
      cases h2 : retOut X s rs ms x vs with
      | none => rw [h1, h2] at ho; simp at ho
      | some o' =>
        rw [h1, h2] at ho; simp only at ho
        cases h3 : immAV s.hp av with
        | none => rw [h3] at ho; cases ho
        | some p =>
          obtain ⟨uv, l⟩ := p
          rw [h3] at ho; simp only at ho
          cases h4 : toVal s.hp S uv with
          | none => rw [h4] at ho; cases ho
          | some y =>
            rw [h4] at ho; cases ho
            obtain ⟨t, yy, rfl⟩ := immAV_val h3
            have h4' : cst t S yy = some y := by cases S <;> exact h4
            obtain ⟨ee, he⟩ := cst_some h4'
            subst ee; cases he
            obtain ⟨u, g1, g2⟩ := retAV_ok hA h h1
            obtain ⟨q1, q2, us, q3, q4⟩ := ret_ok hA h hρ hp h2 hn hst (fun id hid => hfr id (by simp [hid]))
            have hne : av.isTup = false ∧ av ≠ .unk := by
              cases av with
              | unk => cases h3
              | tnil => cases h3
              | tcons _ _ => cases h3
              | _ => exact ⟨rfl, by simp⟩
            obtain ⟨cs, hcs, hrc⟩ : ∃ cs, ((av.agg = true ∧ u = .agg cs.toArray) ∨ (av.agg = false ∧ cs = [u])) ∧ RC w st ρ s.hp av cs := by
              rcases g2 with ⟨hh, _⟩ | ⟨_, g2⟩
              · rw [hne.1] at hh; cases hh
              · rcases g2 with hu | ⟨ha, cs, rfl, hr⟩ | ⟨ha, hr⟩
                · exact absurd hu hne.2
                · exact ⟨cs.toList, .inl ⟨ha, by simp⟩, hr⟩
                · exact ⟨[u], .inr ⟨ha, rfl⟩, hr⟩
            obtain ⟨k1, _, k3, _, _, _, k7⟩ := immAV_ok h hst s.hp ρ h3 hrc (fun id hid => hfr id (by simp [hid]))
            have hVR : VR t u cs := by
              rw [← k3] at hcs
              cases t with
              | pair p q => exact hcs.elim (fun hh => .inl ⟨rfl, hh.2⟩) (fun hh => by cases hh.1)
              | _ => exact hcs.elim (fun hh => by cases hh.1) (fun hh => .inr ⟨rfl, hh.2⟩)
            refine ⟨q1, fun id hid => ?_, u :: us, ?_, u, us, cs, rfl, hVR, k1, q4⟩
            · rcases List.mem_append.1 hid with hid | hid
              · exact k7 id hid
              · exact q2 id hid
            · rw [List.mapM_cons]
              simp only [Sem.run_bind]
              rw [g1]
              simp only [Result.andThen]
              rw [q3]
              rfl

end
end Go.Vm
