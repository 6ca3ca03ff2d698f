/- Loops' heads: what is kept. -/
import Derived.Test.YtkjimaolpijoiaaVm21
set_option linter.unusedVariables false
set_option linter.unusedSimpArgs false
namespace Go.Vm

/-- Memory laid out as objects, some of which mention others that are kept. -/
structure LayK (w : World) (st : Blks) (F : Blks) (l : List (Nat × Ob)) (ρ1 : Nat → Value) (φ1 : Nat → Blks) (Kept : (Nat → Value) → (Nat → Ob) → Prop) : Prop where
  sup : ∀ id b, φ1 id b → F b ∧ id ∈ l.map (·.1)
  dj : ∀ i j b, φ1 i b → φ1 j b → i = j
  nn : ∀ q ∈ l, q.2 ≠ .none
  ob : ∀ (ρ : Nat → Value) (O : Nat → Ob), (∀ id ∈ l.map (·.1), ρ id = ρ1 id) → (∀ q ∈ l, O q.1 = q.2) → Kept ρ O → ∀ q ∈ l, ObR w st ρ φ1 O q.1 q.2

variable {w : World} {st : Blks} {Kept : (Nat → Value) → (Nat → Ob) → Prop}

theorem LayK.nil (F : Blks) (ρ1 : Nat → Value) : LayK w st F [] ρ1 (fun _ _ => False) Kept :=
  ⟨fun _ _ h => h.elim, fun _ _ _ h => h.elim, by simp, by simp⟩

theorem LayK.up {F F' : Blks} {l : List (Nat × Ob)} {ρ1 : Nat → Value} {φ1 : Nat → Blks} (h : LayK w st F l ρ1 φ1 Kept) (hF : ∀ b, F b → F' b) : LayK w st F' l ρ1 φ1 Kept :=
  ⟨fun id b hb => ⟨hF b (h.sup id b hb).1, (h.sup id b hb).2⟩, h.dj, h.nn, h.ob⟩

theorem LayK.both {F F1 F2 : Blks} {l1 l2 : List (Nat × Ob)} {ρ1 ρ2 : Nat → Value} {φ1 φ2 : Nat → Blks} (h1 : LayK w st F1 l1 ρ1 φ1 Kept) (h2 : LayK w st F2 l2 ρ2 φ2 Kept) (hdis : ∀ b, F1 b → F2 b → False)
    (hF1 : ∀ b, F1 b → F b) (hF2 : ∀ b, F2 b → F b) (hk : ∀ id, id ∈ l1.map (·.1) → id ∉ l2.map (·.1)) :
    LayK w st F (l1 ++ l2) (fun id => bif mem id (l1.map (·.1)) then ρ1 id else ρ2 id) (fun id b => φ1 id b ∨ φ2 id b) Kept := by
  have hr1 : ∀ id, id ∈ l1.map (·.1) → (bif mem id (l1.map (·.1)) then ρ1 id else ρ2 id) = ρ1 id := fun id hid => by rw [mem_iff.2 hid]; rfl
  have hr2 : ∀ id, id ∈ l2.map (·.1) → (bif mem id (l1.map (·.1)) then ρ1 id else ρ2 id) = ρ2 id := fun id hid => by
    rw [mem_false.2 (fun h => hk id h hid)]; rfl
  refine ⟨fun id b hb => ?_, fun i j b hi hj => ?_, fun q hq => ?_, fun ρ O e1 e2 e3 q hq => ?_⟩
  · rw [List.map_append, List.mem_append]
    rcases hb with hb | hb
    · exact ⟨hF1 b (h1.sup id b hb).1, .inl (h1.sup id b hb).2⟩
    · exact ⟨hF2 b (h2.sup id b hb).1, .inr (h2.sup id b hb).2⟩
  · rcases hi with hi | hi <;> rcases hj with hj | hj
    · exact h1.dj i j b hi hj
    · exact (hdis b (h1.sup i b hi).1 (h2.sup j b hj).1).elim
    · exact (hdis b (h1.sup j b hj).1 (h2.sup i b hi).1).elim
    · exact h2.dj i j b hi hj
  · rcases List.mem_append.1 hq with hq | hq
    · exact h1.nn q hq
    · exact h2.nn q hq
  · have hm : ∀ q ∈ l1, q.1 ∈ l1.map (·.1) := fun q hq => List.mem_map.2 ⟨q, hq, rfl⟩
    have hm2 : ∀ q ∈ l2, q.1 ∈ l2.map (·.1) := fun q hq => List.mem_map.2 ⟨q, hq, rfl⟩
    rcases List.mem_append.1 hq with hq | hq
    · refine ObR_phi (h1.ob ρ O (fun id hid => ?_) (fun q hq => e2 q (by simp [hq])) e3 q hq) (fun b => ⟨fun hb => ?_, .inl⟩)
      · rw [e1 id (by rw [List.map_append]; simp only [List.mem_append]; exact .inl hid), hr1 id hid]
      · rcases hb with hb | hb
        · exact hb
        · exact (hk q.1 (hm q hq) (h2.sup _ b hb).2).elim
    · refine ObR_phi (h2.ob ρ O (fun id hid => ?_) (fun q hq => e2 q (by simp [hq])) e3 q hq) (fun b => ⟨fun hb => ?_, .inr⟩)
      · rw [e1 id (by rw [List.map_append]; simp only [List.mem_append]; exact .inr hid), hr2 id hid]
      · rcases hb with hb | hb
        · exact (hk q.1 (h1.sup _ b hb).2 (hm2 q hq)).elim
        · exact hb

theorem Compat.le {w w' : World} {O O' : Ob} {r r' : Value} (h : Compat w w' O O' r r' true) (n : Bool) : Compat w w' O O' r r' n := ⟨h.1, h.2.1, fun _ => h.2.2 rfl⟩

theorem Compat.live {w w' : World} {O O' : Ob} {r r' : Value} {n : Bool} (h : Compat w w' O O' r r' n) : O ≠ .none := by
  intro e; rw [e] at h; have := h.2.1; cases O' <;> exact this

section
variable {X : Ctx} {ρ : Nat → Value} {φ : Nat → Blks} {n : Nat} {a : Act} {s : St} {st' : Blks} {kp : List Nat}

/-- What is kept is as it was. -/
def KeptR (w : World) (s : St) (ρ : Nat → Value) (kp : List Nat) (ρ' : Nat → Value) (O' : Nat → Ob) : Prop := ∀ id ∈ kp, Compat w w (s.hp id) (O' id) (ρ id) (ρ' id) true

theorem mkPair_agg (a b : AV) : (mkPair a b).agg = true ∧ (mkPair a b).isTup = false := by cases a <;> cases b <;> exact ⟨rfl, rfl⟩

theorem immAV_ok (h : Sim w st ρ φ n a s) (hst : ∀ b, st b → st' b) (O' : Nat → Ob) (ρ' : Nat → Value) : ∀ {v u : AV} {l : List Nat} {cs : List Value}, immAV s.hp v = some (u, l) → RC w st ρ s.hp v cs → (∀ id ∈ l, ∀ b, φ id b → st' b) →
    RC w st' ρ' O' u cs ∧ (∀ S, Fit s.hp S v → Fit O' S u) ∧ u.agg = v.agg ∧ u.isTup = false ∧ v.isTup = false ∧ v ≠ .unk ∧ (∀ id ∈ l, ∃ T e xs, s.hp id = .arr T e xs) := by
  intro v
  induction v with
  | val t x =>
    intro u l cs hi hr hl
    cases hi
    exact ⟨Im_up hst hr, fun S hf => by cases S <;> exact hf, rfl, rfl, rfl, by simp, by simp⟩
  | nilv T e =>
    intro u l cs hi hr hl
    cases hi
    obtain ⟨A, rfl⟩ := hr
    refine ⟨⟨A, 0, rfl, Nat.le_refl _, fun h => absurd rfl h⟩, fun S hf => ?_, rfl, rfl, rfl, by simp, by simp⟩
    cases S with
    | sl T' e' => obtain ⟨rfl, rfl⟩ := hf; exact rfl
    | _ => exact hf.elim
  | sref id ix p =>
    intro u l cs hi hr hl
    cases ix with
    | some i =>
      simp only [immAV] at hi
      cases hq : s.hp id with
      | arr T e xs =>
        rw [hq] at hi; simp only at hi
        split at hi
        · rename_i T' e' y hg
          cases hi
          have hob := h.ob id
          rw [hq] at hob
          have him : Im w st' (.sl T e) xs [ρ id] := Ow_Im (fun b hb => hl id (by simp) b hb) hob
          have hfz := RC_fz (v := .sref id (some i) p) hq hst him hr
          have hv : (AV.sref id (some i) p).fz id T e xs = .val (.sl T' e') y := by
            simp only [AV.fz]
            rw [show Nat.beq id id = true from Nat.beq_refl id]
            simp only [cond_true, hg]
          rw [hv] at hfz
          refine ⟨hfz, fun S hf => ?_, rfl, rfl, rfl, by simp, fun j hj => by simp at hj; subst hj; exact ⟨_, _, _, hq⟩⟩
          cases S with
          | sl T'' e'' =>
            obtain ⟨ys, hh, _⟩ := hf
            cases hh
          | _ => exact hf.elim
        · cases hi
      | _ => rw [hq] at hi; cases hi
    | none =>
      cases p with
      | cons _ _ => simp [immAV] at hi
      | nil =>
        simp only [immAV] at hi
        cases hq : s.hp id with
        | arr T e xs =>
          rw [hq] at hi; cases hi
          obtain ⟨_, _, rfl, _⟩ := hr
          have hob := h.ob id
          rw [hq] at hob
          refine ⟨Ow_Im (fun b hb => hl id (by simp) b hb) hob, fun S hf => ?_, rfl, rfl, rfl, by simp, fun j hj => by simp at hj; subst hj; exact ⟨_, _, _, hq⟩⟩
          cases S with
          | sl T' e' =>
            obtain ⟨ys, _, _, hk⟩ := hf
            rw [hq] at hk; cases hk; exact rfl
          | _ => exact hf.elim
        | _ => rw [hq] at hi; cases hi
  | pair p q ihp ihq =>
    intro u l cs hi hr hl
    simp only [immAV] at hi
    cases h1 : immAV s.hp p with
    | none => rw [h1] at hi; simp at hi
    | some r1 =>
      obtain ⟨u1, l1⟩ := r1
      cases h2 : immAV s.hp q with
      | none => rw [h1, h2] at hi; simp at hi
      | some r2 =>
        obtain ⟨u2, l2⟩ := r2
        rw [h1, h2] at hi
        simp only [Option.some.injEq, Prod.mk.injEq] at hi
        obtain ⟨rfl, rfl⟩ := hi
        obtain ⟨c1, c2, rfl, g1, g2⟩ := hr
        obtain ⟨a1, a2, a3, a4, a5, a6, a7⟩ := ihp h1 g1 (fun id hid => hl id (by simp [hid]))
        obtain ⟨b1, b2, b3, b4, b5, b6, b7⟩ := ihq h2 g2 (fun id hid => hl id (by simp [hid]))
        refine ⟨mkPair_RC a1 b1, fun S hf => ?_, (mkPair_agg _ _).1, (mkPair_agg _ _).2, rfl, by simp, fun j hj => ?_⟩
        · cases S with
          | pair S1 S2 => exact mkPair_Fit (a2 _ hf.1) (b2 _ hf.2)
          | _ => exact hf.elim
        · rcases List.mem_append.1 hj with hj | hj
          · exact a7 j hj
          · exact b7 j hj
  | _ => intro u l cs hi; cases hi

theorem getA_split {v u1 u2 : AV} {O : Nat → Ob} {cs : List Value} (h1 : getA v [false] = some u1) (h2 : getA v [true] = some u2) (hr : RC w st ρ O v cs) :
    v.agg = true ∧ ∃ c1 c2, cs = c1 ++ c2 ∧ RC w st ρ O u1 c1 ∧ RC w st ρ O u2 c2 ∧ ∀ S, Fit O S v → ∃ S1 S2, S = .pair S1 S2 ∧ Fit O S1 u1 ∧ Fit O S2 u2 := by
  cases v with
  | val t x =>
    cases t with
    | pair p q =>
      simp only [getA, Option.some.injEq] at h1 h2
      subst h1 h2
      obtain ⟨c1, c2, e, g1, g2⟩ := hr
      exact ⟨rfl, c1, c2, e, g1, g2, fun S hf => by have := Fit_val.1 hf; subst this; exact ⟨p, q, rfl, Fit_val.2 rfl, Fit_val.2 rfl⟩⟩
    | _ => simp [getA] at h1
  | pair p q =>
    simp only [getA, Option.some.injEq] at h1 h2
    subst h1 h2
    obtain ⟨c1, c2, e, g1, g2⟩ := hr
    refine ⟨rfl, c1, c2, e, g1, g2, fun S hf => ?_⟩
    cases S with
    | pair S1 S2 => exact ⟨S1, S2, rfl, hf.1, hf.2⟩
    | _ => exact hf.elim
  | _ => simp [getA] at h1

theorem canon_ok (h : Sim w st ρ φ n a s) (hst : ∀ b, st b → st' b) : ∀ {kd : Kd} {v : AV} {k : Nat} {c : Canon} {cs : List Value}, canonAV s.hp kd v k = some c → (c.up.map (·.1)).Nodup → c.mv.Nodup → (∀ id ∈ c.as, id ∈ kp) → (∀ id ∈ c.fr, ∀ b, φ id b → st' b) →
    RC w st ρ s.hp v cs → c.v.agg = v.agg ∧ (kd ≠ .asis → v ≠ .unk) ∧ (∀ id ∈ c.mv ++ c.fr, ∃ T e xs, s.hp id = .arr T e xs) ∧
      ∃ ρ1 φ1, LayK w st' (fun b => ∃ id ∈ c.mv, φ id b) c.up ρ1 φ1 (KeptR w s ρ kp) ∧
        ∀ (ρ' : Nat → Value) (O' : Nat → Ob), (∀ id ∈ c.up.map (·.1), ρ' id = ρ1 id) → (∀ q ∈ c.up, O' q.1 = q.2) → KeptR w s ρ kp ρ' O' → RC w st' ρ' O' c.v cs ∧ ∀ S, Fit s.hp S v → Fit O' S c.v
  | .asis, v, k, c, cs, hc, hn, hm, has, hfr, hr => by
    cases hc
    refine ⟨rfl, fun h => absurd rfl h, by simp, fun _ => undef, _, LayK.nil _ _, fun ρ' O' _ _ hk => ⟨RC_change hst (fun _ _ => rfl) (fun id hid => (hk id (has id hid)).le _) hr, fun S hf => Fit_change (fun id hid T e xs he => ?_) hf⟩⟩
    have := (hk id (has id hid)).2.1
    rw [he] at this
    cases hO : O' id with
    | arr T' e' xs' => rw [hO] at this; obtain ⟨rfl, rfl, _⟩ := this; exact ⟨xs', rfl⟩
    | _ => rw [hO] at this; exact this.elim
  | .own, v, k, c, cs, hc, hn, hm, has, hfr, hr => by
    cases v with
    | nilv T e =>
      cases hc
      obtain ⟨A, rfl⟩ := hr
      refine ⟨rfl, fun _ => by simp, by simp, fun _ => .slice A 0 0, fun _ _ => False, ⟨fun _ _ h => h.elim, fun _ _ _ h => h.elim, by simp, fun ρ' O' h1 h2 _ q hq => ?_⟩, fun ρ' O' h1 h2 _ => ⟨?_, fun S hf => ?_⟩⟩
      · simp at hq; subst hq
        show Ow w (.sl T e) [] [ρ' k] _
        rw [h1 k (by simp)]
        exact .inl ⟨rfl, A, rfl⟩
      · have hO := h2 (k, .arr T e []) (by simp)
        exact ⟨rfl, ⟨_, _, _, hO⟩, by rw [h1 k (by simp)], by rw [h1 k (by simp)]; rfl⟩
      · cases S with
        | sl T' e' =>
          obtain ⟨rfl, rfl⟩ := hf
          exact ⟨[], rfl, rfl, h2 (k, .arr T e []) (by simp)⟩
        | _ => exact hf.elim
    | sref id ix p =>
      cases ix with
      | some _ => simp [canonAV] at hc
      | none =>
        cases p with
        | cons _ _ => simp [canonAV] at hc
        | nil =>
          simp only [canonAV] at hc
          cases hq : s.hp id with
          | arr T e xs =>
            rw [hq] at hc; cases hc
            obtain ⟨_, _, rfl, hone⟩ := hr
            have hob := h.ob id
            rw [hq] at hob
            refine ⟨rfl, fun _ => by simp, fun j hj => by simp at hj; subst hj; exact ⟨_, _, _, hq⟩, fun _ => ρ id, fun j b => j = k ∧ φ id b, ⟨?_, ?_, by simp, fun ρ' O' h1 h2 _ q hq => ?_⟩, fun ρ' O' h1 h2 _ => ⟨?_, fun S hf => ?_⟩⟩
            · rintro j b ⟨rfl, hb⟩; exact ⟨⟨id, by simp, hb⟩, by simp⟩
            · rintro i j b ⟨rfl, _⟩ ⟨rfl, _⟩; rfl
            · simp at hq; subst hq
              show Ow w (.sl T e) xs [ρ' k] _
              rw [h1 k (by simp)]
              exact Ow_up (fun b hb => ⟨rfl, hb⟩) hob
            · exact ⟨rfl, ⟨_, _, _, h2 (k, .arr T e xs) (by simp)⟩, by rw [h1 k (by simp)], by rw [h1 k (by simp)]; exact hone⟩
            · cases S with
              | sl T' e' =>
                obtain ⟨ys, _, _, hk⟩ := hf
                rw [hq] at hk; cases hk
                exact ⟨xs, rfl, rfl, h2 (k, .arr T e xs) (by simp)⟩
              | _ => exact hf.elim
          | _ => rw [hq] at hc; cases hc
    | _ => simp [canonAV] at hc
  | .imm, v, k, c, cs, hc, hn, hm, has, hfr, hr => by
    simp only [canonAV] at hc
    cases hi : immAV s.hp v with
    | none => rw [hi] at hc; cases hc
    | some p =>
      obtain ⟨u, l⟩ := p
      rw [hi] at hc; cases hc
      obtain ⟨g1, g2, g3, g4, g5, g6, g7⟩ := immAV_ok h hst s.hp ρ hi hr hfr
      refine ⟨g3, fun _ => g6, by simpa using g7, fun _ => undef, _, LayK.nil _ _, fun ρ' O' _ _ _ => ?_⟩
      obtain ⟨q1, q2, _⟩ := immAV_ok h hst O' ρ' hi hr hfr
      exact ⟨q1, q2⟩
  | .pair ka kb, v, k, c, cs, hc, hn, hm, has, hfr, hr => by
    simp only [canonAV] at hc
    cases h1 : getA v [false] with
    | none => rw [h1] at hc; simp at hc
    | some u1 =>
      cases h2 : getA v [true] with
      | none => rw [h1, h2] at hc; simp at hc
      | some u2 =>
        rw [h1, h2] at hc; simp only at hc
        cases hx : canonAV s.hp ka u1 k with
        | none => rw [hx] at hc; cases hc
        | some x =>
          rw [hx] at hc; simp only at hc
          cases hy : canonAV s.hp kb u2 x.k with
          | none => rw [hy] at hc; cases hc
          | some y =>
            rw [hy] at hc; cases hc
            obtain ⟨hagg, c1, c2, rfl, r1, r2, hfit⟩ := getA_split h1 h2 hr
            simp only [List.map_append] at hn
            have hn' := List.nodup_append.1 hn
            have hm' := List.nodup_append.1 hm
            have hk : ∀ id, id ∈ x.up.map (·.1) → id ∉ y.up.map (·.1) := fun id h1 h2 => hn'.2.2 id h1 id h2 rfl
            obtain ⟨x1, x2, x3, ρ1, φ1, x4, x5⟩ := canon_ok h hst hx hn'.1 hm'.1 (fun id hid => has id (by simp [hid])) (fun id hid => hfr id (by simp [hid])) r1
            obtain ⟨y1, y2, y3, ρ2, φ2, y4, y5⟩ := canon_ok h hst hy hn'.2.1 hm'.2.1 (fun id hid => has id (by simp [hid])) (fun id hid => hfr id (by simp [hid])) r2
            refine ⟨by rw [hagg]; exact (mkPair_agg _ _).1, fun _ e => (by rw [e] at hagg; cases hagg), fun id hid => ?_, _, _, LayK.both x4 y4 ?_ ?_ ?_ hk, fun ρ' O' g1 g2 g3 => ?_⟩
            · simp only [List.mem_append] at hid
              rcases hid with (hid | hid) | (hid | hid)
              · exact x3 id (by simp [hid])
              · exact y3 id (by simp [hid])
              · exact x3 id (by simp [hid])
              · exact y3 id (by simp [hid])
            · rintro b ⟨i, hi, hib⟩ ⟨j, hj, hjb⟩
              have := h.dj i j b hib hjb; subst this
              exact hm'.2.2 i hi i hj rfl
            · rintro b ⟨i, hi, hib⟩; exact ⟨i, by simp [hi], hib⟩
            · rintro b ⟨i, hi, hib⟩; exact ⟨i, by simp [hi], hib⟩
            · have w1 := x5 ρ' O' (fun id hid => by rw [g1 id (by rw [List.map_append, List.mem_append]; exact .inl hid), mem_iff.2 hid]; rfl) (fun q hq => g2 q (by simp [hq])) g3
              have w2 := y5 ρ' O' (fun id hid => by rw [g1 id (by rw [List.map_append, List.mem_append]; exact .inr hid), mem_false.2 (fun h => hk id h hid)]; rfl) (fun q hq => g2 q (by simp [hq])) g3
              refine ⟨mkPair_RC w1.1 w2.1, fun S hf => ?_⟩
              obtain ⟨S1, S2, rfl, f1, f2⟩ := hfit S hf
              exact mkPair_Fit (w1.2 _ f1) (w2.2 _ f2)

theorem canon_tup {kd : Kd} {v : AV} {k : Nat} {c : Canon} (hc : canonAV s.hp kd v k = some c) (hk : kd ≠ .asis) : v.isTup = false ∧ c.v.isTup = false ∧ v ≠ .unk := by
  cases kd with
  | asis => exact absurd rfl hk
  | own =>
    cases v with
    | nilv T e => cases hc; exact ⟨rfl, rfl, by simp⟩
    | sref id ix p =>
      cases ix with
      | some _ => simp [canonAV] at hc
      | none =>
        cases p with
        | cons _ _ => simp [canonAV] at hc
        | nil =>
          simp only [canonAV] at hc
          cases hq : s.hp id with
          | arr T e xs => rw [hq] at hc; cases hc; exact ⟨rfl, rfl, by simp⟩
          | _ => rw [hq] at hc; cases hc
    | _ => simp [canonAV] at hc
  | imm =>
    simp only [canonAV] at hc
    cases hi : immAV s.hp v with
    | none => rw [hi] at hc; cases hc
    | some p =>
      obtain ⟨u, l⟩ := p
      rw [hi] at hc; cases hc
      cases v with
      | val t x => cases hi; exact ⟨rfl, rfl, by simp⟩
      | nilv T e => cases hi; exact ⟨rfl, rfl, by simp⟩
      | sref id ix p =>
        cases ix with
        | some i =>
          simp only [immAV] at hi
          cases hq : s.hp id with
          | arr T e xs =>
            rw [hq] at hi; simp only at hi
            split at hi
            · cases hi; exact ⟨rfl, rfl, by simp⟩
            · cases hi
          | _ => rw [hq] at hi; cases hi
        | none =>
          cases p with
          | cons _ _ => simp [immAV] at hi
          | nil =>
            simp only [immAV] at hi
            cases hq : s.hp id with
            | arr T e xs => rw [hq] at hi; cases hi; exact ⟨rfl, rfl, by simp⟩
            | _ => rw [hq] at hi; cases hi
      | pair p q =>
        simp only [immAV] at hi
        cases h1 : immAV s.hp p with
        | none => rw [h1] at hi; simp at hi
        | some r1 =>
          cases h2 : immAV s.hp q with
          | none => rw [h1, h2] at hi; simp at hi
          | some r2 =>
            rw [h1, h2] at hi
            simp only [Option.some.injEq, Prod.mk.injEq] at hi
            obtain ⟨rfl, _⟩ := hi
            exact ⟨rfl, (mkPair_agg _ _).2, by simp⟩
      | _ => cases hi
  | pair ka kb =>
    simp only [canonAV] at hc
    cases h1 : getA v [false] with
    | none => rw [h1] at hc; simp at hc
    | some u1 =>
      cases h2 : getA v [true] with
      | none => rw [h1, h2] at hc; simp at hc
      | some u2 =>
        rw [h1, h2] at hc; simp only at hc
        cases hx : canonAV s.hp ka u1 k with
        | none => rw [hx] at hc; cases hc
        | some x =>
          rw [hx] at hc; simp only at hc
          cases hy : canonAV s.hp kb u2 x.k with
          | none => rw [hy] at hc; cases hc
          | some y =>
            rw [hy] at hc; cases hc
            refine ⟨?_, (mkPair_agg _ _).2, ?_⟩
            · cases v with
              | val t x => rfl
              | pair p q => rfl
              | _ => simp [getA] at h1
            · rintro rfl; simp [getA] at h1

/-- A slot. -/
theorem canon_RV (h : Sim w st ρ φ n a s) (hst : ∀ b, st b → st' b) {kd : Kd} {v : AV} {k : Nat} {c : Canon} {x : Value} (hc : canonAV s.hp kd v k = some c) (hn : (c.up.map (·.1)).Nodup) (hm : c.mv.Nodup) (has : ∀ id ∈ c.as, id ∈ kp) (hfr : ∀ id ∈ c.fr, ∀ b, φ id b → st' b)
    (hr : RV w st ρ s.hp v x) : (∀ id ∈ c.mv ++ c.fr, ∃ T e xs, s.hp id = .arr T e xs) ∧
      ∃ ρ1 φ1, LayK w st' (fun b => ∃ id ∈ c.mv, φ id b) c.up ρ1 φ1 (KeptR w s ρ kp) ∧
        ∀ (ρ' : Nat → Value) (O' : Nat → Ob), (∀ id ∈ c.up.map (·.1), ρ' id = ρ1 id) → (∀ q ∈ c.up, O' q.1 = q.2) → KeptR w s ρ kp ρ' O' → RV w st' ρ' O' c.v x := by
  by_cases hk : kd = .asis
  · subst hk
    cases hc
    exact ⟨by simp, fun _ => undef, _, LayK.nil _ _, fun ρ' O' _ _ hk => RV_change hst (fun _ _ => rfl) (fun id hid => (hk id (has id hid)).le _) hr⟩
  · obtain ⟨t1, t2, t3⟩ := canon_tup hc hk
    rcases hr with ⟨hh, _⟩ | ⟨_, hr⟩
    · rw [t1] at hh; cases hh
    rcases hr with rfl | ⟨ha, cs, rfl, hr⟩ | ⟨ha, hr⟩
    · exact absurd rfl t3
    · obtain ⟨g1, _, g3, ρ1, φ1, g4, g5⟩ := canon_ok h hst hc hn hm has hfr hr
      exact ⟨g3, ρ1, φ1, g4, fun ρ' O' q1 q2 q3 => .inr ⟨t2, .inr (.inl ⟨by rw [g1]; exact ha, cs, rfl, (g5 ρ' O' q1 q2 q3).1⟩)⟩⟩
    · obtain ⟨g1, _, g3, ρ1, φ1, g4, g5⟩ := canon_ok h hst hc hn hm has hfr hr
      exact ⟨g3, ρ1, φ1, g4, fun ρ' O' q1 q2 q3 => .inr ⟨t2, .inr (.inr ⟨by rw [g1]; exact ha, (g5 ρ' O' q1 q2 q3).1⟩)⟩⟩

theorem slots_ok (h : Sim w st ρ φ n a s) (hst : ∀ b, st b → st' b) : ∀ {l : List (Nat × Kd)} {m : Mask}, maskSlots s l = some m → (m.up.map (·.1)).Nodup → m.mv.Nodup → (∀ id ∈ m.as, id ∈ kp) → (∀ id ∈ m.fr, ∀ b, φ id b → st' b) →
    (∀ id ∈ m.mv ++ m.fr, ∃ T e xs, s.hp id = .arr T e xs) ∧
      ∃ ρ1 φ1, LayK w st' (fun b => ∃ id ∈ m.mv, φ id b) m.up ρ1 φ1 (KeptR w s ρ kp) ∧
        ∀ (ρ' : Nat → Value) (O' : Nat → Ob), (∀ id ∈ m.up.map (·.1), ρ' id = ρ1 id) → (∀ q ∈ m.up, O' q.1 = q.2) → KeptR w s ρ kp ρ' O' → ∀ q ∈ m.env, RV w st' ρ' O' q.2 (a.tmps.getD q.1 undef)
  | [], m, hm, _, _, _, _ => by
    cases hm
    exact ⟨by simp, fun _ => undef, _, LayK.nil _ _, by simp⟩
  | (t, kd) :: l, m, hm, hn, hmv, has, hfr => by
    simp only [maskSlots] at hm
    cases hc : canonAV s.hp kd (s.env t) (seedOf t) with
    | none => rw [hc] at hm; simp at hm
    | some c =>
      cases hr : maskSlots s l with
      | none => rw [hc, hr] at hm; simp at hm
      | some m' =>
        rw [hc, hr] at hm; cases hm
        simp only [List.map_append] at hn
        have hn' := List.nodup_append.1 hn
        have hm' := List.nodup_append.1 hmv
        have hk : ∀ id, id ∈ c.up.map (·.1) → id ∉ m'.up.map (·.1) := fun id h1 h2 => hn'.2.2 id h1 id h2 rfl
        obtain ⟨x3, ρ1, φ1, x4, x5⟩ := canon_RV h hst hc hn'.1 hm'.1 (fun id hid => has id (by simp [hid])) (fun id hid => hfr id (by simp [hid])) (h.env t)
        obtain ⟨y3, ρ2, φ2, y4, y5⟩ := slots_ok h hst hr hn'.2.1 hm'.2.1 (fun id hid => has id (by simp [hid])) (fun id hid => hfr id (by simp [hid]))
        refine ⟨fun id hid => ?_, _, _, LayK.both x4 y4 ?_ ?_ ?_ hk, fun ρ' O' g1 g2 g3 q hq => ?_⟩
        · simp only [List.mem_append] at hid
          rcases hid with (hid | hid) | (hid | hid)
          · exact x3 id (by simp [hid])
          · exact y3 id (by simp [hid])
          · exact x3 id (by simp [hid])
          · exact y3 id (by simp [hid])
        · rintro b ⟨i, hi, hib⟩ ⟨j, hj, hjb⟩
          have := h.dj i j b hib hjb; subst this
          exact hm'.2.2 i hi i hj rfl
        · rintro b ⟨i, hi, hib⟩; exact ⟨i, by simp [hi], hib⟩
        · rintro b ⟨i, hi, hib⟩; exact ⟨i, by simp [hi], hib⟩
        · rcases List.mem_cons.1 hq with rfl | hq
          · exact x5 ρ' O' (fun id hid => by rw [g1 id (by rw [List.map_append, List.mem_append]; exact .inl hid), mem_iff.2 hid]; rfl) (fun q hq => g2 q (by simp [hq])) g3
          · exact y5 ρ' O' (fun id hid => by rw [g1 id (by rw [List.map_append, List.mem_append]; exact .inr hid), mem_false.2 (fun h => hk id h hid)]; rfl) (fun q hq => g2 q (by simp [hq])) g3 q hq

theorem boxes_ok (h : Sim w st ρ φ n a s) (hst : ∀ b, st b → st' b) : ∀ {l : List (Nat × Kd)} {m : Mask}, maskBoxes s l = some m → (m.up.map (·.1)).Nodup → m.mv.Nodup → (∀ id ∈ m.as, id ∈ kp) → (∀ id ∈ m.fr, ∀ b, φ id b → st' b) →
    (∀ id ∈ m.mv ++ m.fr, ∃ T e xs, s.hp id = .arr T e xs) ∧ (∀ id ∈ l.map (·.1), ((∃ S v, s.hp id = .box S v) ∨ ∃ S x, s.hp id = .cbox S x) ∧ ∃ o, (id, o) ∈ m.up ∧ Compat w w (s.hp id) o (ρ id) (ρ id) true) ∧
      ∃ ρ1 φ1, LayK w st' (fun b => (∃ id ∈ l.map (·.1), φ id b) ∨ ∃ id ∈ m.mv, φ id b) m.up ρ1 φ1 (KeptR w s ρ kp) ∧ ∀ id ∈ l.map (·.1), ρ1 id = ρ id
  | [], m, hm, _, _, _, _ => by
    cases hm
    exact ⟨by simp, by simp, fun _ => undef, _, LayK.nil _ _, by simp⟩
  | (id, kd) :: l, m, hm, hn, hmv, has, hfr => by
    simp only [maskBoxes] at hm
    cases hq : s.hp id with
    | none => rw [hq] at hm; simp at hm
    | arr _ _ _ => rw [hq] at hm; simp at hm
    | cbox S x =>
      rw [hq] at hm
      cases hr : maskBoxes s l with
      | none => rw [hr] at hm; simp at hm
      | some m' =>
        rw [hr] at hm; cases hm
        simp only [List.map_cons, List.nodup_cons] at hn
        obtain ⟨y3, y6, ρ2, φ2, y4, y5⟩ := boxes_ok h hst hr hn.2 hmv has hfr
        have hob := h.ob id
        rw [hq] at hob
        obtain ⟨b, arr, T, fz, g1, g2, g3, g4, g5⟩ := hob
        have hx : LayK w st' (fun _ => False) [(id, .cbox S x)] ρ (fun _ _ => False) (KeptR w s ρ kp) := by
          refine ⟨fun _ _ h => h.elim, fun _ _ _ h => h.elim, by simp, fun ρ' O' q1 q2 _ q hqm => ?_⟩
          simp at hqm; subst hqm
          exact ⟨b, arr, T, fz, by rw [q1 id (by simp)]; exact g1, hst b g2, g3, Im_up hst g4, fun _ h => h⟩
        have hk : ∀ j, j ∈ ([(id, Ob.cbox S x)] : List (Nat × Ob)).map (·.1) → j ∉ m'.up.map (·.1) := fun j hj hj' => by
          simp at hj; subst hj; exact hn.1 hj'
        refine ⟨y3, fun j hj => ?_, _, _, LayK.both (F := fun b => (∃ j ∈ ((id, kd) :: l).map (·.1), φ j b) ∨ ∃ j ∈ m'.mv, φ j b) hx y4 (fun _ h => h.elim) (fun _ h => h.elim) ?_ hk, fun j hj => ?_⟩
        · simp only [List.map_cons, List.mem_cons] at hj
          rcases hj with rfl | hj
          · refine ⟨.inr ⟨S, x, hq⟩, _, List.mem_cons_self, ?_⟩
            rw [hq]
            refine ⟨rfl, rfl, fun _ i p b o hp _ => ?_⟩
            obtain ⟨_, _, _, _, _, _, h4, _⟩ := hp
            cases h4
          · obtain ⟨q0, o, q1, q2⟩ := y6 j hj
            exact ⟨q0, o, by simp [q1], q2⟩
        · rintro b (⟨j, hj, hb⟩ | hb)
          · exact .inl ⟨j, by simp only [List.map_cons, List.mem_cons]; exact .inr hj, hb⟩
          · exact .inr hb
        · simp only [List.map_cons, List.mem_cons] at hj
          show (bif mem j [id] then ρ j else ρ2 j) = ρ j
          by_cases hji : j = id
          · subst hji; rw [mem_iff.2 (by simp)]; rfl
          · rw [mem_false.2 (by simpa using hji)]
            exact y5 j (hj.resolve_left hji)
    | box S v =>
      rw [hq] at hm
      cases hr : maskBoxes s l with
      | none => rw [hr] at hm; simp at hm
      | some m' =>
        rw [hr] at hm; simp only at hm
        cases hc : canonAV s.hp kd v (seedOf id) with
        | none => rw [hc] at hm; cases hm
        | some c =>
          rw [hc] at hm; cases hm
          simp only [List.cons_append, List.map_cons, List.map_append, List.nodup_cons, List.mem_append, not_or] at hn
          have hn' := List.nodup_append.1 hn.2
          have hm' := List.nodup_append.1 hmv
          obtain ⟨y3, y6, ρ2, φ2, y4, y5⟩ := boxes_ok h hst hr hn'.2.1 hm'.2.1 (fun id hid => has id (by simp [hid])) (fun id hid => hfr id (by simp [hid]))
          have hob := h.ob id
          rw [hq] at hob
          obtain ⟨b, arr, T, g1, g2, g3, g4, g5⟩ := hob
          obtain ⟨x1, x2, x3, ρ1, φ1, x4, x5⟩ := canon_ok h hst hc hn'.1 hm'.1 (fun id hid => has id (by simp [hid])) (fun id hid => hfr id (by simp [hid])) g5
          have hidarr : ∀ j ∈ c.mv, j ≠ id := fun j hj e => by
            obtain ⟨_, _, _, hh⟩ := x3 j (by simp [hj])
            rw [e, hq] at hh; cases hh
          have hx : LayK w st' (fun b' => φ id b' ∨ ∃ j ∈ c.mv, φ j b') ((id, .box S c.v) :: c.up) (Go.Vm.upd ρ1 id (ρ id)) (fun j b' => if j = id then φ id b' else φ1 j b') (KeptR w s ρ kp) := by
            refine ⟨fun j b' hb => ?_, fun i j b' h1 h2 => ?_, fun q hqm => ?_, fun ρ' O' q1 q2 q3 q hqm => ?_⟩
            · by_cases hj : j = id
              · simp only [hj, if_true] at hb; exact ⟨.inl hb, by simp [hj]⟩
              · simp only [hj, if_false] at hb
                have := x4.sup j b' hb
                exact ⟨.inr this.1, by simp only [List.map_cons, List.mem_cons]; exact .inr this.2⟩
            · have key : ∀ j, φ id b' → φ1 j b' → False := fun j h1 h2 => by
                obtain ⟨⟨k, hk, hkb⟩, _⟩ := x4.sup j b' h2
                exact hidarr k hk (h.dj k id b' hkb h1)
              by_cases hi : i = id <;> by_cases hj : j = id
              · rw [hi, hj]
              · simp only [hi, if_true] at h1; simp only [hj, if_false] at h2
                exact (key j h1 h2).elim
              · simp only [hj, if_true] at h2; simp only [hi, if_false] at h1
                exact (key i h2 h1).elim
              · simp only [hi, hj, if_false] at h1 h2
                exact x4.dj i j b' h1 h2
            · rcases List.mem_cons.1 hqm with rfl | hqm
              · simp
              · exact x4.nn q hqm
            · have ha1 : ∀ j ∈ c.up.map (·.1), ρ' j = ρ1 j := fun j hj => by
                rw [q1 j (by simp only [List.map_cons, List.mem_cons]; exact .inr hj), upd_ne _ _ (fun e : j = id => hn.1.1 (by rw [← e]; exact hj))]
              have ha2 : ∀ q ∈ c.up, O' q.1 = q.2 := fun q hq => q2 q (by simp [hq])
              rcases List.mem_cons.1 hqm with rfl | hqm
              · obtain ⟨f1, f2⟩ := x5 ρ' O' ha1 ha2 q3
                refine ⟨b, arr, T, ?_, by simpa using g2, g3, f2 _ g4, f1⟩
                rw [q1 id (by simp), upd_same]; exact g1
              · refine ObR_phi (x4.ob ρ' O' ha1 ha2 q3 q hqm) (fun b' => ?_)
                have : q.1 ≠ id := fun e => hn.1.1 (by rw [← e]; exact List.mem_map.2 ⟨q, hqm, rfl⟩)
                simp [this]
          have hk : ∀ j, j ∈ ((id, Ob.box S c.v) :: c.up).map (·.1) → j ∉ m'.up.map (·.1) := fun j hj hj' => by
            simp only [List.map_cons, List.mem_cons] at hj
            rcases hj with rfl | hj
            · exact hn.1.2 hj'
            · exact hn'.2.2 j hj j hj' rfl
          refine ⟨fun j hj => ?_, fun j hj => ?_, _, _, LayK.both (F := fun b => (∃ j ∈ ((id, kd) :: l).map (·.1), φ j b) ∨ ∃ j ∈ c.mv ++ m'.mv, φ j b) hx y4 ?_ ?_ ?_ hk, fun j hj => ?_⟩
          · simp only [List.mem_append] at hj
            rcases hj with (hj | hj) | (hj | hj)
            · exact x3 j (by simp [hj])
            · exact y3 j (by simp [hj])
            · exact x3 j (by simp [hj])
            · exact y3 j (by simp [hj])
          · simp only [List.map_cons, List.mem_cons] at hj
            rcases hj with rfl | hj
            · refine ⟨.inl ⟨S, v, hq⟩, .box S c.v, by simp, ?_⟩
              rw [hq]
              refine ⟨rfl, rfl, fun _ i p b o hp _ => ?_⟩
              obtain ⟨_, _, _, _, _, _, h4, _⟩ := hp
              cases h4
            · obtain ⟨q0, o, q1, q2⟩ := y6 j hj
              exact ⟨q0, o, by simp [q1], q2⟩
          · -- apart
            have hidl : id ∉ l.map (·.1) := fun hl => by
              obtain ⟨_, o, q1, _⟩ := y6 id hl
              exact hn.1.2 (List.mem_map.2 ⟨_, q1, rfl⟩)
            rintro b' hb1 hb2
            obtain ⟨i, hi, hib⟩ : ∃ i, (i = id ∨ i ∈ c.mv) ∧ φ i b' := by
              rcases hb1 with hb | ⟨j, hj, hb⟩
              · exact ⟨id, .inl rfl, hb⟩
              · exact ⟨j, .inr hj, hb⟩
            obtain ⟨j, hj, hjb⟩ : ∃ j, (j ∈ l.map (·.1) ∨ j ∈ m'.mv) ∧ φ j b' := by
              rcases hb2 with ⟨j, hj, hb⟩ | ⟨j, hj, hb⟩
              · exact ⟨j, .inl hj, hb⟩
              · exact ⟨j, .inr hj, hb⟩
            have := h.dj i j b' hib hjb; subst this
            rcases hi with rfl | hi <;> rcases hj with hj | hj
            · exact hidl hj
            · obtain ⟨_, _, _, hh⟩ := y3 i (by simp [hj])
              rw [hq] at hh; cases hh
            · obtain ⟨_, _, _, hh⟩ := x3 i (by simp [hi])
              rcases (y6 i hj).1 with ⟨_, _, h2⟩ | ⟨_, _, h2⟩ <;> rw [hh] at h2 <;> cases h2
            · exact hm'.2.2 i hi i hj rfl
          · rintro b' (hb | ⟨j, hj, hb⟩)
            · exact .inl ⟨id, by simp, hb⟩
            · exact .inr ⟨j, by simp [hj], hb⟩
          · rintro b' (⟨j, hj, hb⟩ | ⟨j, hj, hb⟩)
            · exact .inl ⟨j, by simp only [List.map_cons, List.mem_cons]; exact .inr hj, hb⟩
            · exact .inr ⟨j, by simp [hj], hb⟩
          · simp only [List.map_cons, List.mem_cons] at hj
            by_cases hji : j = id
            · subst hji
              rw [mem_iff.2 (by simp)]
              exact upd_same _ _ _
            · have hjl := hj.resolve_left hji
              obtain ⟨_, o, q1, _⟩ := y6 j hjl
              have : j ∉ ((id, Ob.box S c.v) :: c.up).map (·.1) := fun hh => hk j hh (List.mem_map.2 ⟨_, q1, rfl⟩)
              rw [mem_false.2 this]
              exact y5 j hjl

theorem arrs_ok (h : Sim w st ρ φ n a s) (hst : ∀ b, st b → st' b) : ∀ {l : List Nat} {L : List (Nat × Ob)}, maskArrs s l = some L → L.map (·.1) = l ∧ ∀ q ∈ L, q.2 = s.hp q.1 ∧ ∃ T e xs, q.2 = .arr T e xs
  | [], L, hL => by cases hL; exact ⟨rfl, by simp⟩
  | id :: l, L, hL => by
    simp only [maskArrs] at hL
    cases hq : s.hp id with
    | arr T e xs =>
      rw [hq] at hL
      cases hr : maskArrs s l with
      | none => rw [hr] at hL; simp at hL
      | some L' =>
        rw [hr] at hL; cases hL
        obtain ⟨g1, g2⟩ := arrs_ok h hst hr
        refine ⟨by simp [g1], fun q hqm => ?_⟩
        rcases List.mem_cons.1 hqm with rfl | hqm
        · exact ⟨hq.symm, _, _, _, rfl⟩
        · exact g2 q hqm
    | _ => rw [hq] at hL; simp at hL

end
end Go.Vm
