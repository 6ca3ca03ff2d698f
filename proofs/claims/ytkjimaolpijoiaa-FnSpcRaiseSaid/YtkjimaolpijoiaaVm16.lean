/- Calls: lists of arguments and results. -/
import Derived.Test.YtkjimaolpijoiaaVm15
set_option linter.unusedVariables false
set_option linter.unusedSimpArgs false
namespace Go.Vm

inductive All2 {α β : Type} (R : α → β → Prop) : List α → List β → Prop where
  | nil : All2 R [] []
  | cons {x : α} {y : β} {xs : List α} {ys : List β} : R x y → All2 R xs ys → All2 R (x :: xs) (y :: ys)

theorem keys_swap {t1 t2 n1 n2 : List (Nat × Ob)} (h : (((t1 ++ t2) ++ (n1 ++ n2)).map (·.1)).Nodup) :
    ((t1 ++ n1).map (·.1)).Nodup ∧ ((t2 ++ n2).map (·.1)).Nodup ∧ ∀ id, id ∈ (t1 ++ n1).map (·.1) → id ∉ (t2 ++ n2).map (·.1) := by
  have hp : List.Perm (((t1 ++ t2) ++ (n1 ++ n2)).map (·.1)) (((t1 ++ n1) ++ (t2 ++ n2)).map (·.1)) := by
    refine List.Perm.map _ ?_
    rw [List.append_assoc, List.append_assoc]
    refine List.Perm.append_left t1 ?_
    rw [← List.append_assoc, ← List.append_assoc]
    exact (List.perm_append_comm).append_right n2
  have h := hp.nodup h
  rw [List.map_append] at h
  have h' := List.nodup_append.1 h
  exact ⟨h'.1, h'.2.1, fun id h1 h2 => h'.2.2 id h1 id h2 rfl⟩

section
variable {P : Program} {X : Ctx} {w : World} {st : Blks} {ρ : Nat → Value} {φ : Nat → Blks} {n : Nat} {a : Act} {s : St} {o : Oper} {hp : Nat → Ob}

/-- An argument's value; a variable that a closure has caught. -/
def ArgV (w : World) (st : Blks) (ρ : Nat → Value) (O : Nat → Ob) (av : AV) (v : Value) : Prop := RV w st ρ O av v ∨ ∃ id, av = .ptr id none [] ∧ v = ρ id

theorem argV_RV (h : Sim w st ρ φ n a s) (hle : Le hp s.hp) {m : Mode} {av : AV} {v : Value} {q : m.inSh.den × List Nat × List Nat × List Nat} (hg : gatherA hp m av = some q) (hv : ArgV w st ρ s.hp av v) : RV w st ρ s.hp av v := by
  rcases hv with hv | ⟨id, rfl, rfl⟩
  · exact hv
  have key : ∀ o, hp id = o → ((∃ S u, o = .box S u) ∨ ∃ S x, o = .cbox S x) → RV w st ρ s.hp (.ptr id none []) (ρ id) := by
    rintro o hq (⟨S, u, rfl⟩ | ⟨S, x, rfl⟩)
    · have hO := hle.get hq (by simp)
      have hob := h.ob id
      rw [hO] at hob
      obtain ⟨b, arr, T, h1, h2, h3, h4, h5⟩ := hob
      exact RV_scalar (av := .ptr id none []) ⟨b, 0, ⟨S, S, .inl ⟨u, hO⟩, h1, sub_nil _, (off_nil S).symm⟩, by rw [h1]⟩ rfl rfl
    · have hO := hle.get hq (by simp)
      have hob := h.ob id
      rw [hO] at hob
      obtain ⟨b, arr, T, fz, h1, h2, h3, h4, h5⟩ := hob
      exact RV_scalar (av := .ptr id none []) ⟨b, 0, ⟨S, S, .inr ⟨x, hO⟩, h1, sub_nil _, (off_nil S).symm⟩, by rw [h1]⟩ rfl rfl
  cases m with
  | imm S =>
    simp only [gatherA] at hg
    cases S <;> simp [toVal] at hg
  | own S =>
    simp only [gatherA] at hg
    cases S <;> simp [absorb] at hg
  | loan S =>
    simp only [gatherA] at hg
    cases S <;> simp [absorb] at hg
  | lend T e => simp [gatherA] at hg
  | pO S =>
    simp only [gatherA] at hg
    cases hq : hp id with
    | box S' u => exact key _ hq (.inl ⟨_, _, rfl⟩)
    | _ => rw [hq] at hg; cases hg
  | pI S =>
    simp only [gatherA] at hg
    cases hq : hp id with
    | box S' u => exact key _ hq (.inl ⟨_, _, rfl⟩)
    | _ => rw [hq] at hg; simp at hg
  | pR S =>
    simp only [gatherA] at hg
    cases hc : capsVal hp [S] [id] with
    | none => rw [hc] at hg; cases hg
    | some y =>
      simp only [capsVal] at hc
      cases hq : hp id with
      | box S' u => exact key _ hq (.inl ⟨_, _, rfl⟩)
      | cbox S' u => exact key _ hq (.inr ⟨_, _, rfl⟩)
      | _ => rw [hq] at hc; simp at hc
  | clo f ss => simp [gatherA] at hg

def ArgsOk (w : World) (st1 : Blks) (ρ : Nat → Value) (φ : Nat → Blks) (hp O : Nat → Ob) (ms : List Mode) (as : List AV) (vals : List Value) (x : (insSh ms).den) (dr wr : List Nat) : Prop :=
  ∃ L : Blks, (∀ b, L b → ∃ id ∈ wr, φ id b) ∧ ArgsR w st1 ms x vals L ∧ (∀ id ∈ wr, O id ≠ .none) ∧ (∀ id ∈ dr, id ∈ wr) ∧
    ∀ (w' : World) (st' : Blks) (y : (backSh ms).den) (k : Nat) (t nw : List (Nat × Ob)) (G : Blks), backAV hp ms as y k = some (t, nw) → BackR w' st' ms y vals G →
      (∀ b, (∃ id ∈ wr, φ id b) → ¬ L b → w'.heap[b]? = w.heap[b]?) → (∀ b, G b → (∃ id ∈ wr, φ id b) → L b) → ((t ++ nw).map (·.1)).Nodup →
      (∀ id ∈ wr, id ∈ dr ∨ id ∈ t.map (·.1)) ∧ (∀ q ∈ t, q.1 ∈ wr ∧ Tn (O q.1) q.2) ∧
      ∃ ρ1 φ1, Lay w' st' (fun b => G b ∨ ((∃ id ∈ wr, φ id b) ∧ ¬ L b)) (t ++ nw) ρ1 φ1 ∧ ∀ q ∈ t, ρ1 q.1 = ρ q.1

theorem gather_ok (h : Sim w st ρ φ n a s) (hle : Le hp s.hp) : ∀ {ms : List Mode} {as : List AV} {vals : List Value} {x : (insSh ms).den} {dr wr rd : List Nat}, gather hp ms as = some (x, dr, wr, rd) → wr.Nodup → All2 (ArgV w st ρ s.hp) as vals →
    ∀ {st1 : Blks}, (∀ b, st b ∨ (∃ id ∈ rd, φ id b) → st1 b) → ArgsOk w st1 ρ φ hp s.hp ms as vals x dr wr
  | [], [], vals, x, dr, wr, rd, hg, hnd, hv, st1, hst => by
    cases hg; cases hv
    refine ⟨fun _ => False, fun _ h => h.elim, rfl, by simp, by simp, fun w' st' y k t nw G hb hz hsame hG hnd => ?_⟩
    cases hb
    exact ⟨by simp, by simp, fun _ => undef, _, Lay.nil _ _, by simp⟩
  | [], _ :: _, vals, x, dr, wr, rd, hg, hnd, hv, st1, hst => by simp [gather] at hg
  | _ :: _, [], vals, x, dr, wr, rd, hg, hnd, hv, st1, hst => by simp [gather] at hg
  | m :: ms, av :: as, vals, x, dr, wr, rd, hg, hnd, hv, st1, hst => by
    simp only [gather] at hg
    cases h1 : gatherA hp m av with
    | none => rw [h1] at hg; simp at hg
    | some p1 =>
      obtain ⟨x1, d1, w1, r1⟩ := p1
      cases h2 : gather hp ms as with
      | none => rw [h1, h2] at hg; simp at hg
      | some p2 =>
        obtain ⟨x2, d2, w2, r2⟩ := p2
        rw [h1, h2] at hg
        simp only [Option.some.injEq, Prod.mk.injEq] at hg
        obtain ⟨rfl, rfl, rfl, rfl⟩ := hg
        have hnd' := List.nodup_append.1 hnd
        cases hv with
        | @cons _ v _ vs hv1 hv2 =>
        obtain ⟨F1, f1, f2, f3, f4, f5⟩ := arg_ok h hle h1 hnd'.1 (argV_RV h hle h1 hv1) (st1 := st1) (fun b hb => hst b (hb.imp id (fun ⟨j, hj, hb⟩ => ⟨j, by simp [hj], hb⟩)))
        obtain ⟨L2, g1, g2, g3, g4, g5⟩ := gather_ok h hle h2 hnd'.2.1 hv2 (st1 := st1) (fun b hb => hst b (hb.imp id (fun ⟨j, hj, hb⟩ => ⟨j, by simp [hj], hb⟩)))
        have hap : ∀ b, (∃ j ∈ w1, φ j b) → (∃ j ∈ w2, φ j b) → False := by
          rintro b ⟨i, hi, hib⟩ ⟨j, hj, hjb⟩
          have := h.dj i j b hib hjb; subst this
          exact hnd'.2.2 i hi i hj rfl
        refine ⟨fun b => F1 b ∨ L2 b, ?_, ⟨v, vs, F1, L2, rfl, fun b hb1 hb2 => hap b (f1 b hb1) (g1 b hb2), fun b hb => .inl hb, fun b hb => .inr hb, f2, g2⟩, ?_, ?_, fun w' st' y k t nw G hb hz hsame hG hndk => ?_⟩
        · rintro b (hb | hb)
          · obtain ⟨j, hj, hb⟩ := f1 b hb; exact ⟨j, by simp [hj], hb⟩
          · obtain ⟨j, hj, hb⟩ := g1 b hb; exact ⟨j, by simp [hj], hb⟩
        · intro j hj
          rcases List.mem_append.1 hj with hj | hj
          · exact f3 j hj
          · exact g3 j hj
        · intro j hj
          rw [List.mem_append]
          rcases List.mem_append.1 hj with hj | hj
          · exact .inl (f4 j hj)
          · exact .inr (g4 j hj)
        · obtain ⟨v', r', G1, G2, e, z1, z2, z3, z4, z5⟩ := hz
          cases e
          simp only [backAV] at hb
          generalize hsp : splitB m ms y = sp at hb z4 z5
          obtain ⟨oz, y'⟩ := sp
          simp only at hb z4 z5
          cases hb1 : backA hp m av oz k with
          | none => rw [hb1] at hb; cases hb
          | some p =>
            obtain ⟨t1, n1, k1⟩ := p
            rw [hb1] at hb; simp only at hb
            cases hb2 : backAV hp ms as y' k1 with
            | none => rw [hb2] at hb; cases hb
            | some q =>
              obtain ⟨t2, n2⟩ := q
              rw [hb2] at hb
              simp only [Option.some.injEq, Prod.mk.injEq] at hb
              obtain ⟨rfl, rfl⟩ := hb
              obtain ⟨k1', k2', k3'⟩ := keys_swap hndk
              have hL1 : ∀ b, (∃ j ∈ w1, φ j b) → F1 b ∨ L2 b → F1 b := fun b hb hL => hL.elim id (fun hL => (hap b hb (g1 b hL)).elim)
              have hL2 : ∀ b, (∃ j ∈ w2, φ j b) → F1 b ∨ L2 b → L2 b := fun b hb hL => hL.elim (fun hL => (hap b (f1 b hL) hb).elim) id
              have up1 : ∀ b, (∃ j ∈ w1, φ j b) → ∃ j ∈ w1 ++ w2, φ j b := fun b ⟨j, hj, hb⟩ => ⟨j, by simp [hj], hb⟩
              have up2 : ∀ b, (∃ j ∈ w2, φ j b) → ∃ j ∈ w1 ++ w2, φ j b := fun b ⟨j, hj, hb⟩ => ⟨j, by simp [hj], hb⟩
              obtain ⟨a1, a2, ρ1, φ1, a3, a4⟩ := f5 w' st' oz k k1 t1 n1 G1 hb1 z4 (fun b hb hF => hsame b (up1 b hb) (fun hL => hF (hL1 b hb hL))) (fun b hb hb' => hL1 b hb' (hG b (z2 b hb) (up1 b hb'))) k1'
              obtain ⟨b1, b2, ρ2, φ2, b3, b4⟩ := g5 w' st' y' k1 t2 n2 G2 hb2 z5 (fun b hb hF => hsame b (up2 b hb) (fun hL => hF (hL2 b hb hL))) (fun b hb hb' => hL2 b hb' (hG b (z3 b hb) (up2 b hb'))) k2'
              refine ⟨fun j hj => ?_, fun q hq => ?_, _, _, (Lay.both (F := fun b => G b ∨ ((∃ id ∈ w1 ++ w2, φ id b) ∧ ¬ (F1 b ∨ L2 b))) a3 b3 ?_ ?_ ?_ k3').set (fun q => ?_), fun q hq => ?_⟩
              · simp only [List.map_append, List.mem_append]
                rcases List.mem_append.1 hj with hj | hj
                · exact (a1 j hj).imp .inl .inl
                · exact (b1 j hj).imp .inr .inr
              · rcases List.mem_append.1 hq with hq | hq
                · exact ⟨by simp [(a2 q hq).1], (a2 q hq).2⟩
                · exact ⟨by simp [(b2 q hq).1], (b2 q hq).2⟩
              · rintro b (hb | ⟨hb, hn⟩) (hb' | ⟨hb', hn'⟩)
                · exact z1 b hb hb'
                · exact (hG b (z2 b hb) (up2 b hb')).elim (fun hL => hap b (f1 b hL) hb') hn'
                · exact (hG b (z3 b hb') (up1 b hb)).elim hn (fun hL => hap b hb (g1 b hL))
                · exact hap b hb hb'
              · rintro b (hb | ⟨hb, hn⟩)
                · exact .inl (z2 b hb)
                · exact .inr ⟨up1 b hb, fun hL => hn (hL1 b hb hL)⟩
              · rintro b (hb | ⟨hb, hn⟩)
                · exact .inl (z3 b hb)
                · exact .inr ⟨up2 b hb, fun hL => hn (hL2 b hb hL)⟩
              · simp only [List.mem_append]
                constructor <;> rintro ((h | h) | (h | h)) <;> simp [h]
              · rcases List.mem_append.1 hq with hq | hq
                · have hm : q.1 ∈ (t1 ++ n1).map (·.1) := List.mem_map.2 ⟨q, by simp [hq], rfl⟩
                  rw [mem_iff.2 hm]; exact a4 q hq
                · have hm : q.1 ∈ (t2 ++ n2).map (·.1) := List.mem_map.2 ⟨q, by simp [hq], rfl⟩
                  rw [mem_false.2 (fun h => k3' q.1 h hm)]; exact b4 q hq

/-! ### Results -/
theorem Im_flat {w' : World} {st' : Blks} {S : Sh} {x : S.den} {cs : List Value} (hf : S.flat = true) (h : Im w st S x cs) : Im w' st' S x cs :=
  Ow_Im (F := fun _ => False) (fun _ h => h.elim) (Im_Ow hf h)

theorem BackR_flat {st' : Blks} : ∀ {ms : List Mode} {y : (backSh ms).den} {vals : List Value} {G : Blks}, immBack ms = false → BackR w st ms y vals G → BackR w st' ms y vals G
  | [], _, _, _, _, _ => trivial
  | m :: ms, y, vals, G, hi, ⟨v, r, F1, F2, h1, h2, h3, h4, h5, h6⟩ => by
    have hi' : immBack ms = false ∧ ∀ S, m = .pI S → S.flat = true := by
      cases m <;> simp [immBack] at hi ⊢ <;> first | exact hi | exact ⟨hi.2, hi.1⟩
    refine ⟨v, r, F1, F2, h1, h2, h3, h4, fun z hz => ?_, BackR_flat hi'.1 h6⟩
    have := h5 z hz
    cases m with
    | imm S => cases hz
    | own S => cases hz
    | pR S => cases hz
    | clo f ss => cases hz
    | lend T e => exact this
    | loan S => exact this
    | pO S => exact this
    | pI S =>
      obtain ⟨b, arr, T, q1, q2, q3, q4⟩ := this
      exact ⟨b, arr, T, q1, q2, q3, Im_flat (hi'.2 S rfl) q4⟩

theorem ResR_flat {st' : Blks} : ∀ {rs : List (RK × Sh)} {ms : List Mode} {y : (outSh rs ms).den} {us vals : List Value} {G : Blks}, immRes rs = false → immBack ms = false → ResR w st rs ms y us vals G → ResR w st' rs ms y us vals G
  | [], ms, y, us, vals, G, _, hb, ⟨h1, h2⟩ => ⟨h1, BackR_flat hb h2⟩
  | (.new, S) :: rs, ms, y, us, vals, G, hr, hb, ⟨u, r, F1, F2, h1, h2, h3, h4, ⟨b, arr, T, q1, q2, q3, q4⟩, h7⟩ => by
    simp [immRes] at hr
    exact ⟨u, r, F1, F2, h1, h2, h3, h4, ⟨b, arr, T, q1, q2, q3, Im_flat hr.1 q4⟩, ResR_flat hr.2 hb h7⟩
  | (.own, S) :: rs, ms, y, us, vals, G, hr, hb, ⟨u, r, F1, F2, cs, h1, h2, h3, h4, h5, h6, h7⟩ =>
    ⟨u, r, F1, F2, cs, h1, h2, h3, h4, h5, h6, ResR_flat (by simpa [immRes] using hr) hb h7⟩
  | (.imm, S) :: rs, ms, y, us, vals, G, hr, hb, ⟨u, r, cs, h1, h2, h3, h4⟩ => by
    simp [immRes] at hr
    exact ⟨u, r, cs, h1, h2, Im_flat hr.1 h3, ResR_flat hr.2 hb h4⟩

theorem RV1_fit {O : Nat → Ob} {S : Sh} {av : AV} {v : Value} {cs : List Value} (hf : Fit O S av) (h : RC w st ρ O av cs) (hv : VR S v cs) : RV1 w st ρ O av v := RV1_of_RC hf h hv

theorem intro_tup : ∀ {S : Sh} {x : S.den} {k k' : Nat} {v : AV} {l : List (Nat × Ob)}, intro S x k = (v, l, k') → v.isTup = false
  | .int _, _, _, _, _, _, e => by cases e; rfl
  | .bool, _, _, _, _, _, e => by cases e; rfl
  | .str, _, _, _, _, _, e => by cases e; rfl
  | .unit, _, _, _, _, _, e => by cases e; rfl
  | .sl _ _, _, _, _, _, _, e => by cases e; rfl
  | .pair a b, x, k, k', v, l, e => by
    simp only [intro] at e
    cases e1 : intro a x.1 k with
    | mk u p =>
    obtain ⟨l1, k1⟩ := p
    cases e2 : intro b x.2 k1 with
    | mk v2 p =>
    obtain ⟨l2, k2⟩ := p
    rw [e1] at e; simp only at e
    rw [e2] at e; simp only [Prod.mk.injEq] at e
    obtain ⟨rfl, _⟩ := e
    cases u <;> cases v2 <;> rfl

theorem res_ok : ∀ {rs : List (RK × Sh)} {ms : List Mode} {y : (outSh rs ms).den} {us vals : List Value} {G : Blks} {k k' : Nat} {vs : List AV} {l : List (Nat × Ob)} {b : (backSh ms).den}, ResR w st rs ms y us vals G → resAV rs ms y k = (vs, l, k', b) → (l.map (·.1)).Nodup →
    ∃ G1 G2 ρ1 φ1, (∀ b, G1 b → G2 b → False) ∧ (∀ b, G1 b → G b) ∧ (∀ b, G2 b → G b) ∧ BackR w st ms b vals G2 ∧ Lay w st G1 l ρ1 φ1 ∧ (∀ av ∈ vs, av.isTup = false ∧ ∀ id ∈ av.ids, id ∈ l.map (·.1)) ∧
      ∀ (ρ : Nat → Value) (O : Nat → Ob), (∀ id ∈ l.map (·.1), ρ id = ρ1 id) → (∀ q ∈ l, O q.1 = q.2) → All2 (RV1 w st ρ O) vs us
  | [], ms, y, us, vals, G, k, k', vs, l, b, ⟨h1, h2⟩, e, hn => by
    cases e; subst h1
    exact ⟨fun _ => False, G, fun _ => undef, _, fun _ h _ => h, fun _ h => h.elim, fun _ h => h, h2, Lay.nil _ _, by simp, fun _ _ _ _ => .nil⟩
  | (.new, S) :: rs, ms, y, us, vals, G, k, k', vs, l, b, ⟨u, r, F1, F2, h1, h2, h3, h4, ⟨b0, arr, T, p1, p2, p3, p4⟩, h7⟩, e, hn => by
    simp only [resAV] at e
    cases e2 : resAV rs ms y.2 (k + 10000) with
    | mk vs2 p =>
    obtain ⟨l2, k2, b2⟩ := p
    rw [e2] at e
    simp only [Prod.mk.injEq] at e
    obtain ⟨rfl, rfl, rfl, rfl⟩ := e
    subst h1
    simp only [List.map_cons, List.nodup_cons] at hn
    obtain ⟨G1, G2, ρ2, φ2, j1, j2, j3, j4, j5, j6, j7⟩ := res_ok h7 e2 hn.2
    have i1 : Lay w st F1 [(k, Ob.box S (.val S y.1))] (fun _ => u) (fun j c => j = k ∧ c = b0) := by
      refine ⟨?_, ?_, by simp, by simp [Ob.ids, AV.ids], ?_⟩
      · rintro j c ⟨rfl, rfl⟩; exact ⟨p2, by simp⟩
      · rintro i j b ⟨rfl, _⟩ ⟨rfl, _⟩; rfl
      · intro ρ' O h1 h2 q hq
        simp at hq; subst hq
        exact ⟨b0, arr, T, by rw [h1 k (by simp), p1], ⟨rfl, rfl⟩, p3, Fit_val.2 rfl, p4⟩
    have hk : ∀ id, id ∈ [(k, Ob.box S (.val S y.1))].map (·.1) → id ∉ l2.map (·.1) := fun id h1 h2 => by
      simp at h1; subst h1; exact hn.1 h2
    refine ⟨fun b => F1 b ∨ G1 b, G2, _, _, ?_, ?_, fun b hb => h4 b (j3 b hb), j4, Lay.both (F := fun b => F1 b ∨ G1 b) i1 j5 (fun b hb hb' => h2 b hb (j2 b hb')) (fun _ h => .inl h) (fun _ h => .inr h) hk, ?_, fun ρ O g1 g2 => ?_⟩
    · rintro b (hb | hb) hb'
      · exact h2 b hb (j3 b hb')
      · exact j1 b hb hb'
    · rintro b (hb | hb)
      · exact h3 b hb
      · exact h4 b (j2 b hb)
    · intro av hav
      rcases List.mem_cons.1 hav with rfl | hav
      · exact ⟨rfl, by simp [AV.ids]⟩
      · refine ⟨(j6 av hav).1, fun id hid => ?_⟩
        simp only [List.map_cons, List.mem_cons]
        exact .inr ((j6 av hav).2 id hid)
    · have hr : ρ k = u := by
        rw [g1 k (by simp)]
        have : mem k ([(k, Ob.box S (.val S y.1))].map (·.1)) = true := mem_iff.2 (by simp)
        rw [this]; rfl
      refine .cons (.inr (.inr ⟨rfl, b0, 0, ⟨S, S, .inl ⟨_, g2 (k, .box S (.val S y.1)) (by simp)⟩, by rw [hr, p1], sub_nil _, (off_nil S).symm⟩, by rw [p1]⟩)) (j7 ρ O (fun id hid => ?_) (fun q hq => g2 q (by simp [hq])))
      rw [g1 id (by simp only [List.map_cons, List.mem_cons]; exact .inr hid), mem_false.2 (fun h => hk id h hid)]; rfl
  | (.own, S) :: rs, ms, y, us, vals, G, k, k', vs, l, b, ⟨u, r, F1, F2, cs, h1, h2, h3, h4, h5, h6, h7⟩, e, hn => by
    simp only [resAV] at e
    cases e1 : intro S y.1 k with
    | mk v p =>
    obtain ⟨l1, k1⟩ := p
    rw [e1] at e; simp only at e
    cases e2 : resAV rs ms y.2 k1 with
    | mk vs2 p =>
    obtain ⟨l2, k2, b2⟩ := p
    rw [e2] at e
    simp only [Prod.mk.injEq] at e
    obtain ⟨rfl, rfl, rfl, rfl⟩ := e
    subst h1
    rw [List.map_append] at hn
    have hn' := List.nodup_append.1 hn
    obtain ⟨ρ1, φ1, i1, i2, i3, i4⟩ := intro_ok (st := st) h6 e1 hn'.1
    obtain ⟨G1, G2, ρ2, φ2, j1, j2, j3, j4, j5, j6, j7⟩ := res_ok h7 e2 hn'.2.1
    have hk : ∀ id, id ∈ l1.map (·.1) → id ∉ l2.map (·.1) := fun id h1 h2 => hn'.2.2 id h1 id h2 rfl
    refine ⟨fun b => F1 b ∨ G1 b, G2, _, _, ?_, ?_, fun b hb => h4 b (j3 b hb), j4, Lay.both (F := fun b => F1 b ∨ G1 b) i1 j5 (fun b hb hb' => h2 b hb (j2 b hb')) (fun _ h => .inl h) (fun _ h => .inr h) hk, ?_, fun ρ O g1 g2 => ?_⟩
    · rintro b (hb | hb) hb'
      · exact h2 b hb (j3 b hb')
      · exact j1 b hb hb'
    · rintro b (hb | hb)
      · exact h3 b hb
      · exact h4 b (j2 b hb)
    · intro av hav
      rw [List.map_append]; simp only [List.mem_append]
      rcases List.mem_cons.1 hav with rfl | hav
      · exact ⟨intro_tup e1, fun id hid => .inl (i2 id hid)⟩
      · exact ⟨(j6 av hav).1, fun id hid => .inr ((j6 av hav).2 id hid)⟩
    · have w1 := i4 st ρ O (fun id hid => by
        rw [g1 id (by rw [List.map_append, List.mem_append]; exact .inl hid), mem_iff.2 hid]; rfl) (fun q hq => g2 q (by simp [hq]))
      exact .cons (RV1_of_RC w1.1 w1.2 h5) (j7 ρ O (fun id hid => by
        rw [g1 id (by rw [List.map_append, List.mem_append]; exact .inr hid), mem_false.2 (fun h => hk id h hid)]; rfl) (fun q hq => g2 q (by simp [hq])))
  | (.imm, S) :: rs, ms, y, us, vals, G, k, k', vs, l, b, ⟨u, r, cs, h1, h2, h3, h4⟩, e, hn => by
    simp only [resAV] at e
    cases e2 : resAV rs ms y.2 k with
    | mk vs2 p =>
    obtain ⟨l2, k2, b2⟩ := p
    rw [e2] at e
    simp only [Prod.mk.injEq] at e
    obtain ⟨rfl, rfl, rfl, rfl⟩ := e
    subst h1
    obtain ⟨G1, G2, ρ2, φ2, j1, j2, j3, j4, j5, j6, j7⟩ := res_ok h4 e2 hn
    refine ⟨G1, G2, ρ2, φ2, j1, j2, j3, j4, j5, ?_, fun ρ O g1 g2 => .cons (RV1_of_RC (S := S) (Fit_val.2 rfl) h3 h2) (j7 ρ O g1 g2)⟩
    intro av hav
    rcases List.mem_cons.1 hav with rfl | hav
    · exact ⟨rfl, fun id hid => by simp [AV.ids] at hid⟩
    · exact j6 av hav

end
end Go.Vm
