/- Memory given up: an array becomes a value that is read alone. -/
import Derived.Test.YtkjimaolpijoiaaVm20
set_option linter.unusedVariables false
set_option linter.unusedSimpArgs false
namespace Go.Vm

section
variable {X : Ctx} {w : World} {st : Blks} {ρ : Nat → Value} {φ : Nat → Blks} {n : Nat} {a : Act} {s : St}

/-- A part of an element of an array that is read alone. -/
theorem Im_elem {T : TypeId} {e : Sh} {xs : List e.den} {r : Value} {i : Int} {p : List Bool} {b of : Nat} {sh : Sh} {y : sh.den} (h : Im w st (.sl T e) xs [r]) (hp : PtrAt (.arr T e xs) r (some i) p b of) (hg : getT e (rdL xs i) p = some ⟨sh, y⟩) :
    ∃ cc, st b ∧ Im w st sh y cc ∧ ∀ j v, cc[j]? = some v → w.cell? ⟨b, of + j, none⟩ = some v := by
  obtain ⟨T', e', xs', s', l, c, h1, h2, h3, h4, h5, h6⟩ := hp
  cases h1
  obtain ⟨A, cap, g1, g2, g3⟩ := h
  have hne : xs ≠ [] := by intro e; subst e; simp at h4
  obtain ⟨b', o', rfl, hst, hel⟩ := g3 hne
  rw [h2] at g1
  simp only [List.cons.injEq, Value.slice.injEq, Option.some.injEq, Addr.mk.injEq] at g1
  obtain ⟨⟨⟨rfl, rfl, _⟩, _, _⟩, _⟩ := g1
  obtain ⟨cc, q1, q2⟩ := hel i.toNat _ (rdL_get h4)
  refine ⟨_, hst, Im_sub q1 hg, fun j v hj => ?_⟩
  rw [List.getElem?_take] at hj
  split at hj
  · rw [List.getElem?_drop] at hj
    have := q2 _ v hj
    rw [← this]; congr 2; omega
  · cases hj

/-- The objects behind. -/
def fzO (id : Nat) (T : TypeId) (e : Sh) (xs : List e.den) (O : Nat → Ob) : Nat → Ob := fun j => bif Nat.beq j id then .none else (O j).mapA (AV.fz id T e xs)

theorem beq_ne {i j : Nat} (h : i ≠ j) : Nat.beq i j = false := by
  rw [Bool.eq_false_iff]; intro e; exact h (Nat.eq_of_beq_eq_true e)
theorem beq_self (i : Nat) : Nat.beq i i = true := Nat.beq_eq ▸ rfl

theorem fzO_ne {id j : Nat} {T : TypeId} {e : Sh} {xs : List e.den} {O : Nat → Ob} (h : j ≠ id) : fzO id T e xs O j = (O j).mapA (AV.fz id T e xs) := by
  unfold fzO; rw [beq_ne h]; rfl

theorem PtrAt_mapA {f : AV → AV} {o : Ob} {r : Value} {ix : Option Int} {p : List Bool} {b of : Nat} (h : PtrAt o r ix p b of) : PtrAt (o.mapA f) r ix p b of := by
  cases ix with
  | none =>
    obtain ⟨S, s, h1, h2⟩ := h
    refine ⟨S, s, ?_, h2⟩
    rcases h1 with ⟨v, rfl⟩ | ⟨x, rfl⟩
    · exact .inl ⟨f v, rfl⟩
    · exact .inr ⟨x, rfl⟩
  | some i =>
    obtain ⟨T, e, xs, s, l, c, rfl, h2⟩ := h
    exact ⟨T, e, xs, s, l, c, rfl, h2⟩

variable {st' : Blks} {O : Nat → Ob} {id : Nat} {T : TypeId} {e : Sh} {xs : List e.den}

theorem ids_fz : ∀ {v : AV} {j : Nat}, j ∈ (v.fz id T e xs).ids → j ∈ v.ids ∧ j ≠ id := by
  intro v
  induction v with
  | pair a b iha ihb =>
    intro j h
    simp only [AV.fz] at h
    simp only [AV.ids, List.mem_append]
    rcases mkPair_ids h with h | h
    · exact ⟨.inl (iha h).1, (iha h).2⟩
    · exact ⟨.inr (ihb h).1, (ihb h).2⟩
  | tcons a b iha ihb =>
    intro j h
    simp only [AV.fz, AV.ids, List.mem_append] at h ⊢
    rcases h with h | h
    · exact ⟨.inl (iha h).1, (iha h).2⟩
    · exact ⟨.inr (ihb h).1, (ihb h).2⟩
  | sref k ix p =>
    intro j h
    simp only [AV.fz] at h
    by_cases hk : k = id
    · subst hk
      rw [beq_self] at h
      cases ix with
      | none => simp [AV.ids] at h
      | some i =>
        simp only [cond_true] at h
        split at h <;> simp [AV.ids] at h
    · rw [beq_ne hk] at h
      simp [AV.ids] at h ⊢
      subst h; exact ⟨rfl, hk⟩
  | ptr k ix p =>
    intro j h
    simp only [AV.fz] at h
    by_cases hk : k = id
    · subst hk
      rw [beq_self] at h
      cases ix with
      | none => simp [AV.ids] at h
      | some i =>
        simp only [cond_true] at h
        split at h <;> simp [AV.ids] at h
    · rw [beq_ne hk] at h
      simp [AV.ids] at h ⊢
      subst h; exact ⟨rfl, hk⟩
  | fn f caps =>
    intro j h
    simp only [AV.fz] at h
    cases hm : mem id caps <;> rw [hm] at h
    · simp only [cond_false, AV.ids] at h ⊢
      exact ⟨h, fun e => mem_false.1 hm (e ▸ h)⟩
    · simp [AV.ids] at h
  | _ => intro j h; simp [AV.fz, AV.ids] at h

theorem Fit_fz (hO : O id = .arr T e xs) : ∀ {v : AV} {S : Sh}, Fit O S v → Fit (fzO id T e xs O) S (v.fz id T e xs) := by
  intro v
  induction v with
  | pair a b iha ihb =>
    intro S h
    cases S with
    | pair p q => exact mkPair_Fit (iha h.1) (ihb h.2)
    | _ => exact h.elim
  | val s x => intro S h; cases S <;> exact h
  | nilv T' e' =>
    intro S h
    cases S with
    | sl _ _ => exact h
    | _ => exact h.elim
  | unk =>
    intro S h
    cases S with
    | sl _ _ => exact h
    | _ => exact h.elim
  | sref k ix p =>
    intro S h
    cases S with
    | sl T' e' =>
      obtain ⟨ys, rfl, rfl, hk⟩ := h
      simp only [AV.fz]
      by_cases hki : k = id
      · subst hki
        rw [hO] at hk; cases hk
        rw [beq_self]; exact rfl
      · rw [beq_ne hki]
        refine ⟨ys, rfl, rfl, ?_⟩
        rw [fzO_ne hki, hk]; rfl
    | _ => exact h.elim
  | _ => intro S h; cases S <;> exact h.elim

theorem RC_fz (hO : O id = .arr T e xs) (hst : ∀ b, st b → st' b) (him : Im w st' (.sl T e) xs [ρ id]) : ∀ {v : AV} {cs : List Value}, RC w st ρ O v cs → RC w st' ρ (fzO id T e xs O) (v.fz id T e xs) cs := by
  intro v
  induction v with
  | unk => intro cs h; exact h
  | val S x => intro cs h; exact Im_up hst h
  | pair a b iha ihb =>
    rintro cs ⟨c1, c2, rfl, h1, h2⟩
    exact mkPair_RC (iha h1) (ihb h2)
  | nilv _ _ => intro cs h; exact h
  | iptr S x =>
    rintro cs ⟨b, o, cc, h1, h2, h3, h4⟩
    exact ⟨b, o, cc, h1, hst b h2, Im_up hst h3, h4⟩
  | nq e => intro cs h; exact h
  | fn f caps =>
    intro cs h
    have h : cs = _ := h
    simp only [AV.fz]
    cases hm : mem id caps
    · exact h
    · exact ⟨_, h, rfl⟩
  | tnil => intro cs h; exact h.elim
  | tcons _ _ _ _ => intro cs h; exact h.elim
  | ptr k ix p =>
    intro cs h
    simp only [AV.fz]
    by_cases hk : k = id
    · subst hk
      rw [beq_self]
      obtain ⟨b, o, h1, rfl⟩ := h
      cases ix with
      | none => exact ⟨_, rfl, rfl⟩
      | some i =>
        simp only [cond_true]
        cases hg : getT e (rdL xs i) p with
        | none => exact ⟨_, rfl, rfl⟩
        | some q =>
          obtain ⟨sh, y⟩ := q
          rw [hO] at h1
          obtain ⟨cc, g1, g2, g3⟩ := Im_elem him h1 hg
          exact ⟨b, o, cc, rfl, g1, g2, g3⟩
    · rw [beq_ne hk]
      obtain ⟨b, o, h1, h2⟩ := h
      refine ⟨b, o, ?_, h2⟩
      rw [fzO_ne hk]; exact PtrAt_mapA h1
  | sref k ix p =>
    intro cs h
    simp only [AV.fz]
    by_cases hk : k = id
    · subst hk
      rw [beq_self]
      cases ix with
      | none =>
        obtain ⟨rfl, _, rfl, _⟩ := h
        exact him
      | some i =>
        obtain ⟨b, o, v, h1, h2, h3, rfl, h5⟩ := h
        simp only [cond_true]
        cases hg : getT e (rdL xs i) p with
        | none => exact ⟨_, rfl, h5⟩
        | some q =>
          obtain ⟨sh, y⟩ := q
          obtain ⟨T', e', hs⟩ := h2 _ _ _ hO
          have : sh = .sl T' e' := by
            have := getT_sub hg
            rw [hs] at this; cases this; rfl
          subst this
          rw [hO] at h1
          obtain ⟨cc, g1, g2, g3⟩ := Im_elem him h1 hg
          have hl := Im_len g2
          match cc, hl with
          | [u], _ =>
            have := g3 0 u rfl
            rw [Nat.add_zero, h3] at this
            cases this
            exact g2
    · rw [beq_ne hk]
      cases ix with
      | none =>
        obtain ⟨h1, ⟨T', e', ys, h2⟩, h3⟩ := h
        refine ⟨h1, ⟨T', e', ys, ?_⟩, h3⟩
        rw [fzO_ne hk, h2]; rfl
      | some i =>
        obtain ⟨b, o, v, h1, h2, h3⟩ := h
        refine ⟨b, o, v, ?_, fun T1 e1 ys hh => ?_, h3⟩
        · rw [fzO_ne hk]; exact PtrAt_mapA h1
        · rw [fzO_ne hk] at hh
          cases hO2 : O k with
          | arr T2 e2 zs =>
            rw [hO2] at hh; cases hh
            exact h2 _ _ _ hO2
          | _ => rw [hO2] at hh; cases hh

theorem fz_agg {v : AV} (h : ∀ cs, RC w st ρ O v cs → True) : (v.fz id T e xs).agg = v.agg ∨ v.agg = false := by
  cases v with
  | pair a b =>
    left
    show (mkPair _ _).agg = true
    cases (a.fz id T e xs) <;> cases (b.fz id T e xs) <;> rfl
  | val s x => exact .inl rfl
  | _ => exact .inr rfl

theorem RV1_fz (hO : O id = .arr T e xs) (hst : ∀ b, st b → st' b) (him : Im w st' (.sl T e) xs [ρ id]) {v : AV} {x : Value} (h : RV1 w st ρ O v x) : RV1 w st' ρ (fzO id T e xs O) (v.fz id T e xs) x := by
  rcases h with rfl | ⟨h1, cs, h2, h3⟩ | ⟨h1, h2⟩
  · exact .inl rfl
  · refine .inr (.inl ⟨?_, cs, h2, RC_fz hO hst him h3⟩)
    cases v with
    | pair a b =>
      show (mkPair _ _).agg = true
      cases (a.fz id T e xs) <;> cases (b.fz id T e xs) <;> rfl
    | val s y => exact h1
    | _ => cases h1
  · have hr := RC_fz hO hst him h2
    by_cases hu : v.fz id T e xs = .unk
    · exact .inl hu
    refine .inr (.inr ⟨?_, hr⟩)
    cases v with
    | pair a b => cases h1
    | val s y => exact h1
    | sref k ix p =>
      simp only [AV.fz] at hu ⊢
      by_cases hk : k = id
      · subst hk
        rw [beq_self] at hu ⊢
        cases ix with
        | none => rfl
        | some i =>
          obtain ⟨b, o, v, q1, q2, q3, _, q5⟩ := h2
          obtain ⟨T', e', hs⟩ := q2 _ _ _ hO
          simp only [cond_true] at hu ⊢
          cases hg : getT e (rdL xs i) p with
          | none => rfl
          | some q =>
            obtain ⟨sh, y⟩ := q
            have : sh = .sl T' e' := by
              have := getT_sub hg
              rw [hs] at this; cases this; rfl
            subst this
            rfl
      · rw [beq_ne hk]; rfl
    | ptr k ix p =>
      simp only [AV.fz] at hu ⊢
      by_cases hk : k = id
      · subst hk
        rw [beq_self] at hu ⊢
        cases ix with
        | none => rfl
        | some i =>
          simp only [cond_true] at hu ⊢
          cases hg : getT e (rdL xs i) p <;> rfl
      · rw [beq_ne hk]; rfl
    | fn f caps =>
      simp only [AV.fz] at hu ⊢
      cases hm : mem id caps <;> rfl
    | _ => rfl

theorem RT_fz (hO : O id = .arr T e xs) (hst : ∀ b, st b → st' b) (him : Im w st' (.sl T e) xs [ρ id]) : ∀ {v : AV} {us : List Value}, RT w st ρ O v us → RT w st' ρ (fzO id T e xs O) (v.fz id T e xs) us
  | .tnil, _, h => h
  | .tcons a b, _, ⟨u, r, h1, h2, h3⟩ => ⟨u, r, h1, RV1_fz hO hst him h2, RT_fz hO hst him h3⟩

theorem fz_tup {v : AV} : (v.fz id T e xs).isTup = v.isTup := by
  cases v with
  | pair a b =>
    show (mkPair _ _).isTup = false
    cases (a.fz id T e xs) <;> cases (b.fz id T e xs) <;> rfl
  | sref k ix p =>
    simp only [AV.fz]
    cases Nat.beq k id
    · rfl
    · cases ix with
      | none => rfl
      | some i => simp only [cond_true]; cases getT e (rdL xs i) p <;> rfl
  | ptr k ix p =>
    simp only [AV.fz]
    cases Nat.beq k id
    · rfl
    · cases ix with
      | none => rfl
      | some i => simp only [cond_true]; cases getT e (rdL xs i) p <;> rfl
  | fn f caps => simp only [AV.fz]; cases mem id caps <;> rfl
  | _ => rfl

theorem RV_fz (hO : O id = .arr T e xs) (hst : ∀ b, st b → st' b) (him : Im w st' (.sl T e) xs [ρ id]) {v : AV} {x : Value} (h : RV w st ρ O v x) : RV w st' ρ (fzO id T e xs O) (v.fz id T e xs) x := by
  rcases h with ⟨h1, vs, h2, h3⟩ | ⟨h1, h2⟩
  · exact .inl ⟨by rw [fz_tup]; exact h1, vs, h2, RT_fz hO hst him h3⟩
  · exact .inr ⟨by rw [fz_tup]; exact h1, RV1_fz hO hst him h2⟩

theorem Sim.fz (h : Sim w st ρ φ n a s) (hO : s.hp id = .arr T e xs) : Sim w (fun b => st b ∨ φ id b) ρ (fun j b => φ j b ∧ j ≠ id) n a ⟨fun t => (s.env t).fz id T e xs, fzO id T e xs s.hp⟩ := by
  have hob := h.ob id
  rw [hO] at hob
  have him : Im w (fun b => st b ∨ φ id b) (.sl T e) xs [ρ id] := Ow_Im (fun b hb => .inr hb) hob
  have hst : ∀ b, st b → (fun b => st b ∨ φ id b) b := fun b hb => .inl hb
  have hlive : ∀ j, j ≠ id → s.hp j ≠ .none → fzO id T e xs s.hp j ≠ .none := fun j hj hn => by
    rw [fzO_ne hj]; intro e; exact hn (Ob.mapA_none.1 e)
  refine ⟨h.nt, h.df, fun t ht => by show (s.env t).fz id T e xs = _; rw [h.hi t ht]; rfl, fun t => RV_fz hO hst him (h.env t), fun j => ?_, fun j b hb => ⟨(h.lt j b hb.1).1, ?_⟩, fun i j b h1 h2 => h.dj i j b h1.1 h2.1, fun t j hj => ?_, fun k j hj => ?_, ?_⟩
  · by_cases hj : j = id
    · subst hj
      show ObR _ _ _ _ _ _ (fzO j T e xs s.hp j)
      have : fzO j T e xs s.hp j = .none := by unfold fzO; rw [beq_self]; rfl
      rw [this]
      exact fun b hb => hb.2 rfl
    · show ObR _ _ _ _ _ _ (fzO id T e xs s.hp j)
      rw [fzO_ne hj]
      have ho := h.ob j
      cases hq : s.hp j with
      | none => rw [hq] at ho; exact fun b hb => ho b hb.1
      | box S v =>
        rw [hq] at ho
        obtain ⟨b, arr, T', g1, g2, g3, g4, g5⟩ := ho
        exact ⟨b, arr, T', g1, ⟨g2, hj⟩, g3, Fit_fz hO g4, RC_fz hO hst him g5⟩
      | cbox S x =>
        rw [hq] at ho
        obtain ⟨b, arr, T', fz, g1, g2, g3, g4, g5⟩ := ho
        exact ⟨b, arr, T', fz, g1, .inl g2, g3, Im_up hst g4, fun b hb => g5 b hb.1⟩
      | arr T' e' ys =>
        rw [hq] at ho
        exact Ow_up (fun b hb => ⟨hb, hj⟩) ho
  · rintro (hs | hs)
    · exact (h.lt j b hb.1).2 hs
    · exact hb.2 (h.dj j id b hb.1 hs)
  · obtain ⟨g1, g2⟩ := ids_fz hj
    exact hlive j g2 (h.wf t j g1)
  · have hj : j ∈ (fzO id T e xs s.hp k).ids := hj
    have hlv : j ∈ (s.hp k).ids ∧ j ≠ id := by
      by_cases hk : k = id
      · subst hk
        have : fzO k T e xs s.hp k = .none := by unfold fzO; rw [beq_self]; rfl
        rw [this] at hj; cases hj
      · rw [fzO_ne hk] at hj
        cases hq : s.hp k with
        | box S v => rw [hq] at hj; exact ids_fz hj
        | none => rw [hq] at hj; cases hj
        | cbox _ _ => rw [hq] at hj; cases hj
        | arr _ _ _ => rw [hq] at hj; cases hj
    exact hlive j hlv.2 (h.wfh k j hlv.1)
  · rintro b (hb | hb)
    · exact h.stlt b hb
    · exact (h.lt id b hb).1

variable {w0 : World} {st0 : Blks} {ρ0 : Nat → Value} {φ0 : Nat → Blks} {s0 s' : St}

theorem Inv.fzId (h : Inv X w0 st0 ρ0 φ0 s0 a w s) (hs : s.fzId id = some s') : Inv X w0 st0 ρ0 φ0 s0 a w s' := by
  unfold St.fzId at hs
  cases hq : s.hp id with
  | arr T e xs =>
    rw [hq] at hs
    simp only [Option.some.injEq] at hs
    subst hs
    obtain ⟨st, ρ, φ, h1, h2⟩ := h
    refine ⟨_, _, _, h1.fz hq, h2.os, h2.tape, h2.output, h2.size, h2.keep, fun b hb => .inl (h2.st1 b hb), fun b hb => ?_, fun j b hb => h2.ow j b hb.1, fun j hp hn => h2.pid j hp ?_⟩
    · rcases hb with hb | hb
      · exact h2.st2 b hb
      · exact .inr (h2.ow id b hb)
    · intro e1
      apply hn
      show (bif Nat.beq j id then Ob.none else (s.hp j).mapA _) = .none
      rw [e1]
      cases Nat.beq j id <;> rfl
  | _ => rw [hq] at hs; cases hs

theorem Inv.fzIds : ∀ {l : List Nat} {s s' : St}, Inv X w0 st0 ρ0 φ0 s0 a w s → s.fzIds l = some s' → Inv X w0 st0 ρ0 φ0 s0 a w s'
  | [], s, s', h, e => by cases e; exact h
  | id :: l, s, s', h, e => by
    simp only [St.fzIds] at e
    cases h1 : s.fzId id with
    | none => rw [h1] at e; cases e
    | some s1 => rw [h1] at e; exact Inv.fzIds (h.fzId h1) e

theorem Inv.fzSlots : ∀ {l : List Nat} {s s' : St}, Inv X w0 st0 ρ0 φ0 s0 a w s → s.fzSlots l = some s' → Inv X w0 st0 ρ0 φ0 s0 a w s'
  | [], s, s', h, e => by cases e; exact h
  | t :: l, s, s', h, e => by
    simp only [St.fzSlots] at e
    cases h1 : s.fzIds (arrIds s.hp (s.env t)) with
    | none => rw [h1] at e; cases e
    | some s1 => rw [h1] at e; exact Inv.fzSlots (h.fzIds h1) e

end
end Go.Vm
