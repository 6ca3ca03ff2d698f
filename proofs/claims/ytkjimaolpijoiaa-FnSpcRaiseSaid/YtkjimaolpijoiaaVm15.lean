/- Calls: what is handed over, and how it comes back. -/
import Derived.Test.YtkjimaolpijoiaaVm14
set_option linter.unusedVariables false
set_option linter.unusedSimpArgs false
namespace Go.Vm

/-- An object and what it may turn to. -/
def Tn : Ob → Ob → Prop
  | .box S _, .box S' _ => S' = S
  | .arr T e xs, .arr T' e' xs' => T' = T ∧ e' = e ∧ xs.length ≤ xs'.length
  | _, _ => False

section
variable {P : Program} {X : Ctx} {w : World} {st : Blks} {ρ : Nat → Value} {φ : Nat → Blks} {n : Nat} {a : Act} {s : St} {o : Oper} {hp : Nat → Ob}

theorem Ow_sl {T : TypeId} {e : Sh} {xs : List e.den} {v : Value} {F : Blks} (h : Ow w (.sl T e) xs [v] F) : ∃ A cap, v = .slice A xs.length cap := by
  rcases h with ⟨rfl, A, e⟩ | ⟨b, cap, arr, F', e, _⟩
  · exact ⟨A, 0, by simpa using e⟩
  · exact ⟨_, cap, by simpa using e⟩

theorem capsVal_ok (h : Sim w st ρ φ n a s) (hle : Le hp s.hp) {st1 : Blks} : ∀ {ss : List Sh} {ids : List Nat} {x : (chain ss).den}, capsVal hp ss ids = some x →
    (∀ b, st b ∨ (∃ id ∈ ids ++ ids.flatMap (fun id => (hp id).ids), φ id b) → st1 b) → CapsR w st1 ss x (ids.map ρ)
  | [], [], x, hx, _ => rfl
  | [], _ :: _, x, hx, _ => by simp [capsVal] at hx
  | _ :: _, [], x, hx, _ => by simp [capsVal] at hx
  | S :: ss, id :: ids, x, hx, hst => by
    simp only [capsVal] at hx
    have hrest : ∀ b, st b ∨ (∃ j ∈ ids ++ ids.flatMap (fun id => (hp id).ids), φ j b) → st1 b := fun b hb => hst b (by
      rcases hb with hb | ⟨j, hj, hb⟩
      · exact .inl hb
      · refine .inr ⟨j, ?_, hb⟩
        simp only [List.mem_append, List.flatMap_cons, List.mem_cons] at hj ⊢
        rcases hj with hj | hj
        · exact .inl (.inr hj)
        · exact .inr (.inr hj))
    split at hx
    · rename_i y z hy hz
      cases hx
      have ih := capsVal_ok h hle hz hrest
      cases hq : hp id with
      | box S' v =>
        rw [hq] at hy; simp only at hy
        split at hy
        · rename_i hSS
          subst hSS
          have hob := h.ob id
          rw [hle.get hq (by simp)] at hob
          obtain ⟨b, arr, T, h1, h2, h3, h4, h5⟩ := hob
          have him := toVal_Im h hle hy h5
          refine ⟨b, arr, T, (0, 0), ids.map ρ, by simp [h1], hst b (.inr ⟨id, by simp, h2⟩), h3, Im_up (fun c hc => hst c ?_) him, ih⟩
          rcases hc with hc | ⟨j, hj, hc⟩
          · exact .inl hc
          · refine .inr ⟨j, ?_, hc⟩
            simp only [List.mem_append, List.flatMap_cons, hq]
            exact .inr (.inl hj)
        · cases hy
      | cbox S' y' =>
        rw [hq] at hy; simp only at hy
        obtain ⟨hSS, rfl⟩ := cst_some hy
        subst hSS
        have hob := h.ob id
        rw [hle.get hq (by simp)] at hob
        obtain ⟨b, arr, T, fz, h1, h2, h3, h4, h5⟩ := hob
        exact ⟨b, arr, T, fz, ids.map ρ, by simp [h1], hst b (.inl h2), h3, Im_up (fun c hc => hst c (.inl hc)) h4, ih⟩
      | _ => rw [hq] at hy; cases hy
    · cases hx

/-- One argument. -/
def ArgOk (w : World) (st1 : Blks) (ρ : Nat → Value) (φ : Nat → Blks) (hp O : Nat → Ob) (m : Mode) (a : AV) (v : Value) (x : m.inSh.den) (dr wr : List Nat) : Prop :=
  ∃ F : Blks, (∀ b, F b → ∃ id ∈ wr, φ id b) ∧ ArgR w st1 m x v F ∧ (∀ id ∈ wr, O id ≠ .none) ∧ (∀ id ∈ dr, id ∈ wr) ∧
    ∀ (w' : World) (st' : Blks) (oz : Option m.inSh.den) (k k' : Nat) (t nw : List (Nat × Ob)) (G : Blks), backA hp m a oz k = some (t, nw, k') → (∀ z, oz = some z → ArgR w' st' m z v G) →
      (∀ b, (∃ id ∈ wr, φ id b) → ¬ F b → w'.heap[b]? = w.heap[b]?) → (∀ b, G b → (∃ id ∈ wr, φ id b) → F b) → ((t ++ nw).map (·.1)).Nodup →
      (∀ id ∈ wr, id ∈ dr ∨ id ∈ t.map (·.1)) ∧ (∀ q ∈ t, q.1 ∈ wr ∧ Tn (O q.1) q.2) ∧
      ∃ ρ1 φ1, Lay w' st' (fun b => G b ∨ ((∃ id ∈ wr, φ id b) ∧ ¬ F b)) (t ++ nw) ρ1 φ1 ∧ ∀ q ∈ t, ρ1 q.1 = ρ q.1

theorem argOk_none {st1 : Blks} {O : Nat → Ob} {m : Mode} {av : AV} {v : Value} {x : m.inSh.den} {D : List Nat} {F : Blks} (hF : ∀ b, F b → ∃ id ∈ D, φ id b) (hx : ArgR w st1 m x v F) (hl : ∀ id ∈ D, O id ≠ .none)
    (hb : ∀ oz k, backA hp m av oz k = some ([], [], k)) : ArgOk w st1 ρ φ hp O m av v x D D := by
  refine ⟨F, hF, hx, hl, fun _ h => h, fun w' st' oz k k' t nw G hbk _ _ _ _ => ?_⟩
  rw [hb] at hbk; cases hbk
  exact ⟨fun id hid => .inl hid, by simp, fun _ => undef, _, Lay.nil _ _, by simp⟩

theorem arg_own (h : Sim w st ρ φ n a s) (hle : Le hp s.hp) {st1 : Blks} {S : Sh} {av : AV} {v : Value} {x : S.den} {D : List Nat} (hg : absorb hp S av = some (x, D)) (hnd : D.Nodup) (hv : RV w st ρ s.hp av v) :
    ArgOk w st1 ρ φ hp s.hp (.own S) av v x D D := by
  obtain ⟨cs, h1, h2⟩ := absorb_RV hg hv
  refine argOk_none (F := fun b => ∃ id ∈ D, φ id b) (fun b hb => hb) ⟨cs, h1, absorb_Ow h hle hg hnd h2⟩ (fun id hid => ?_) (fun oz k => rfl)
  have := (absorb_ids hg id hid).2
  rw [hle id this]; exact this

theorem arg_mut0 (h : Sim w st ρ φ n a s) (hle : Le hp s.hp) {st1 : Blks} {T : TypeId} {e : Sh} {id : Nat} {xs : List e.den} {v : Value} (hq : hp id = .arr T e xs) (hv : RV w st ρ s.hp (.sref id none []) v) :
    ArgOk w st1 ρ φ hp s.hp (.lend T e) (.sref id none []) v xs [] [id] := by
  obtain ⟨_, _, ee, hone⟩ := RC_scalar hv rfl rfl (by simp)
  have ee : v = ρ id := by simpa using ee
  have hob := h.ob id
  have hO := hle.get hq (by simp)
  rw [hO] at hob
  have hob : Ow w (.sl T e) xs [v] (φ id) := by rw [ee]; exact hob
  refine ⟨φ id, fun b hb => ⟨id, by simp, hb⟩, hob, fun j hj => by simp at hj; subst hj; rw [hO]; simp, by simp, fun w' st' oz k k' t nw G hb hz hsame hG hnd => ?_⟩
  cases oz with
  | none => simp [backA] at hb
  | some z =>
    simp only [backA, Option.some.injEq, Prod.mk.injEq] at hb
    obtain ⟨rfl, rfl, rfl⟩ := hb
    have hz : Ow w' (.sl T e) z [v] G := hz z rfl
    obtain ⟨A, cap, e1⟩ := Ow_sl hob
    obtain ⟨A', cap', e2⟩ := Ow_sl hz
    have hlen : xs.length = z.length := by
      rw [e1] at e2
      simp only [Value.slice.injEq] at e2
      exact e2.2.1
    refine ⟨by simp, fun q hq => ?_, fun _ => ρ id, fun j c => j = id ∧ G c, ⟨?_, ?_, by simp, by simp [Ob.ids], ?_⟩, by simp⟩
    · simp at hq; subst hq
      refine ⟨by simp, ?_⟩
      simp only [hO, Tn]
      refine ⟨trivial, trivial, ?_⟩
      omega
    · rintro j c ⟨rfl, hc⟩; exact ⟨.inl hc, by simp⟩
    · rintro i j b ⟨rfl, _⟩ ⟨rfl, _⟩; rfl
    · intro ρ' O h1 h2 q hq
      simp at hq; subst hq
      show Ow w' (.sl T e) z [ρ' id] _
      rw [h1 id (by simp), ← ee]
      exact Ow_up (fun c hc => ⟨rfl, hc⟩) hz

theorem arg_mut1 (h : Sim w st ρ φ n a s) (hle : Le hp s.hp) {st1 : Blks} {T T' : TypeId} {e e' : Sh} {id : Nat} {i : Int} {p : List Bool} {xs : List e'.den} {y : List e.den} {v : Value} (hq : hp id = .arr T' e' xs)
    (hg : getT e' (rdL xs i) p = some ⟨.sl T e, y⟩) (hv : RV w st ρ s.hp (.sref id (some i) p) v) : ArgOk w st1 ρ φ hp s.hp (.lend T e) (.sref id (some i) p) v y [] [id] := by
  obtain ⟨b, of, v', hpt, _, hcell, ee, hone⟩ := RC_scalar hv rfl rfl (by simp)
  have ee : v = v' := by simpa using ee
  subst ee
  have hO := hle.get hq (by simp)
  obtain ⟨T1, e1, xs1, sh, ll, cc, hh, hr, h0, hi, hs2, hof⟩ := hpt
  rw [hO] at hh; cases hh
  have hob := h.ob id
  rw [hO] at hob
  rcases hob with ⟨rfl, _⟩ | ⟨b', cap, arr, F', hr', g1, g2, g3, g4, g5, g6, g7, g8⟩
  · simp at hi
  have hr' : ρ id = .slice (some ⟨b', 0, none⟩) xs.length cap := by simpa using hr'
  rw [hr] at hr'; cases hr'
  obtain ⟨F1, hF1, hE1, k1⟩ := OwL_sub g8 (rdL_get hi)
  obtain ⟨F2, hF2, hE2, k2⟩ := Ow_sub hE1 hg
  have hsz := sub_size (getT_sub hg)
  have hseg : (((arr.toList.drop (i.toNat * e'.size)).take e'.size).drop (e'.off p)).take (Sh.sl T e).size = [v] := by
    have hl := Ow_len hE2
    obtain ⟨u, hu⟩ : ∃ u, (((arr.toList.drop (i.toNat * e'.size)).take e'.size).drop (e'.off p)).take (Sh.sl T e).size = [u] := by
      revert hl
      generalize (((arr.toList.drop (i.toNat * e'.size)).take e'.size).drop (e'.off p)).take (Sh.sl T e).size = L
      intro hl
      match L, hl with
      | [u], _ => exact ⟨u, rfl⟩
    rw [hu]
    have hc0 : ((arr.toList.drop of).take (Sh.sl T e).size)[0]? = some u := by
      have hu' := hu
      rw [List.drop_take, List.take_take, Nat.min_eq_left (by omega), List.drop_drop, ← hof] at hu'
      rw [hu']; rfl
    have := slice_cells g4 0 u hc0
    rw [Nat.add_zero, hcell] at this
    cases this; rfl
  rw [hseg] at hE2
  refine ⟨F2, fun c hc => ⟨id, by simp, g3 c (hF1 c (hF2 c hc))⟩, hE2, fun j hj => by simp at hj; subst hj; rw [hO]; simp, by simp, fun w' st' oz k k' t nw G hb hz hsame hG hnd => ?_⟩
  cases oz with
  | none => simp [backA] at hb
  | some z =>
    simp only [backA, hq] at hb
    cases hset : setT e' (rdL xs i) p (.sl T e) z with
    | none => rw [hset] at hb; cases hb
    | some z' =>
      rw [hset] at hb
      simp only [Option.some.injEq, Prod.mk.injEq] at hb
      obtain ⟨rfl, rfl, rfl⟩ := hb
      have hz : Ow w' (.sl T e) z [v] G := hz z rfl
      have hbF : ¬ F2 b := fun hb => g2 (hF1 b (hF2 b hb))
      have e1 := k2 w' ((arr.toList.drop (i.toNat * e'.size)).take e'.size) G z z' hset rfl (fun _ _ => rfl) (fun c hc hc2 => hsame c ⟨id, by simp, g3 c (hF1 c hc)⟩ hc2)
        (fun c hc hc1 => hG c hc ⟨id, by simp, g3 c (hF1 c hc1)⟩) (by rw [hseg]; exact hz)
      have e2 := k1 (fun x c G => Ow w' e' x c G) arr.toList _ z' (fun x' c H hH hH1 hx => Ow_world (fun q hq => hsame q ⟨id, by simp, g3 q (hH q hq)⟩ (fun h2 => hH1 q hq (hF2 q h2))) hx) (fun _ _ => rfl)
        (fun c hc hc' => by
          rcases hc with ⟨hc, _⟩ | hc
          · exact hc
          · exact hF2 c (hG c hc ⟨id, by simp, g3 c hc'⟩)) e1
      refine ⟨by simp, fun q hq => ?_, fun _ => ρ id, fun j c => j = id ∧ (G c ∨ (φ id c ∧ ¬ F2 c)), ⟨?_, ?_, by simp, by simp [Ob.ids], ?_⟩, by simp⟩
      · simp at hq; subst hq
        refine ⟨by simp, ?_⟩
        simp only [hO, Tn]
        exact ⟨trivial, trivial, by simp⟩
      · rintro j c ⟨rfl, hc | ⟨hc, hn⟩⟩
        · exact ⟨.inl hc, by simp⟩
        · exact ⟨.inr ⟨⟨j, by simp, hc⟩, hn⟩, by simp⟩
      · rintro i j b ⟨rfl, _⟩ ⟨rfl, _⟩; rfl
      · intro ρ' O h1 h2 q hq
        simp at hq; subst hq
        show Ow w' (.sl T' e') _ [ρ' id] _
        rw [h1 id (by simp), hr]
        refine .inr ⟨b, cc, arr, _, by rw [List.length_set], ⟨rfl, .inr ⟨g1, hbF⟩⟩, ?_, ?_, by rw [hsame b ⟨id, by simp, g1⟩ hbF]; exact g4, by rw [List.length_set]; exact g5, g6, g7, e2⟩
        · rintro (⟨hc, _⟩ | ⟨hc, _⟩ | hc)
          · exact g2 hc
          · exact g2 (hF1 _ hc)
          · exact hbF (hG b hc ⟨id, by simp, g1⟩)
        · rintro c (⟨hc, hn⟩ | ⟨hc, hn⟩ | hc)
          · exact ⟨rfl, .inr ⟨g3 c hc, fun h2 => hn (hF2 c h2)⟩⟩
          · exact ⟨rfl, .inr ⟨g3 c (hF1 c hc), hn⟩⟩
          · exact ⟨rfl, .inl hc⟩

theorem box_ptr (h : Sim w st ρ φ n a s) {id : Nat} {v : Value} {S : Sh} {u : AV} (hO : s.hp id = .box S u) (hv : RV w st ρ s.hp (.ptr id none []) v) :
    ∃ b arr T, v = .pointer (some ⟨b, 0, none⟩) ∧ ρ id = v ∧ φ id b ∧ w.heap[b]? = some (.cells arr T (0, 0)) ∧ Fit s.hp S u ∧ RC w st ρ s.hp u arr.toList := by
  obtain ⟨b, of, hpt, e⟩ := RC_scalar hv rfl rfl (by simp)
  obtain ⟨S', s', hS, hr, hs, rfl⟩ := hpt
  rw [off_nil] at e
  have e : v = .pointer (some ⟨b, 0, none⟩) := by simpa using e
  have hob := h.ob id
  rw [hO] at hob
  obtain ⟨b', arr, T, h1, h2, h3, h4, h5⟩ := hob
  rw [hr] at h1; cases h1
  exact ⟨b, arr, T, e, by rw [hr, e], h2, h3, h4, h5⟩

theorem arg_pO (h : Sim w st ρ φ n a s) (hle : Le hp s.hp) {st1 : Blks} {S : Sh} {id : Nat} {u : AV} {v : Value} {x : S.den} {D : List Nat} (hq : hp id = .box S u) (hg : absorb hp S u = some (x, D)) (hnd : (id :: D).Nodup)
    (hv : RV w st ρ s.hp (.ptr id none []) v) : ArgOk w st1 ρ φ hp s.hp (.pO S) (.ptr id none []) v x D (id :: D) := by
  have hO := hle.get hq (by simp)
  obtain ⟨b, arr, T, hb1, hb2, hb3, hb4, hb5, hb6⟩ := box_ptr h hO hv
  simp only [List.nodup_cons] at hnd
  have hOw := absorb_Ow h hle hg hnd.2 hb6
  have hbD : ¬ ∃ j ∈ D, φ j b := by
    rintro ⟨j, hj, hjb⟩
    have := h.dj id j b hb3 hjb; subst this; exact hnd.1 hj
  refine ⟨fun c => c = b ∨ ∃ j ∈ D, φ j c, ?_, ⟨b, arr, T, fun c => ∃ j ∈ D, φ j c, hb1, .inl rfl, hb4, hOw, hbD, fun c hc => .inr hc⟩, ?_, fun j hj => by simp [hj], fun w' st' oz k k' t nw G hb hz hsame hG hnd' => ?_⟩
  · rintro c (rfl | ⟨j, hj, hc⟩)
    · exact ⟨id, by simp, hb3⟩
    · exact ⟨j, by simp [hj], hc⟩
  · intro j hj
    rcases List.mem_cons.1 hj with rfl | hj
    · rw [hO]; simp
    · have := (absorb_ids hg j hj).2
      rw [hle j this]; exact this
  · cases oz with
    | none => simp [backA] at hb
    | some z =>
      simp only [backA] at hb
      cases hi : intro S z k with
      | mk u' r =>
      obtain ⟨l, k2⟩ := r
      rw [hi] at hb
      simp only [Option.some.injEq, Prod.mk.injEq] at hb
      obtain ⟨rfl, rfl, rfl⟩ := hb
      obtain ⟨b', arr', T', F', q1, q2, q3, q4, q5, q6⟩ := hz z rfl
      rw [hb1] at q1; cases q1
      simp only [List.map_append, List.map_cons, List.map_nil, List.singleton_append, List.nodup_cons] at hnd'
      obtain ⟨ρ1, φ1, i1, i2, i3, i4⟩ := intro_ok (st := st') q4 hi hnd'.2
      have hkm : ∀ q ∈ l, q.1 ∈ l.map (·.1) := fun q hq => List.mem_map.2 ⟨q, hq, rfl⟩
      refine ⟨fun j hj => ?_, fun q hq => ?_, Go.Vm.upd ρ1 id (ρ id), fun j c => if j = id then c = b else φ1 j c, ⟨fun j c hc => ?_, fun i j c h1 h2 => ?_, ?_, ?_, ?_⟩, ?_⟩
      · rcases List.mem_cons.1 hj with rfl | hj
        · exact .inr (by simp)
        · exact .inl hj
      · simp at hq; subst hq
        exact ⟨by simp, by simp only [hO, Tn]⟩
      · by_cases hj : j = id
        · simp only [hj, if_true] at hc; subst hc
          exact ⟨.inl q2, by simp [hj]⟩
        · simp only [hj, if_false] at hc
          have := i1.sup j c hc
          exact ⟨.inl (q6 c this.1), by simp only [List.map_append, List.mem_append]; exact .inr this.2⟩
      · by_cases hi : i = id <;> by_cases hj : j = id
        · rw [hi, hj]
        · simp only [hi, if_true] at h1; simp only [hj, if_false] at h2; subst h1
          exact (q5 (i1.sup j c h2).1).elim
        · simp only [hj, if_true] at h2; simp only [hi, if_false] at h1; subst h2
          exact (q5 (i1.sup i c h1).1).elim
        · simp only [hi, hj, if_false] at h1 h2
          exact i1.dj i j c h1 h2
      · intro q hq
        rcases List.mem_append.1 hq with hq | hq
        · simp at hq; subst hq; simp
        · exact i1.nn q hq
      · intro q hq j hj
        simp only [List.map_append, List.mem_append]
        rcases List.mem_append.1 hq with hq | hq
        · simp at hq; subst hq
          exact .inr (i2 j hj)
        · exact .inr (i1.ids q hq j hj)
      · intro ρ' O h1 h2 q hq
        have hag : ∀ j ∈ l.map (·.1), ρ' j = ρ1 j := fun j hj => by
          rw [h1 j (by simp only [List.map_append, List.mem_append]; exact .inr hj), upd_ne _ _ (fun e : j = id => hnd'.1 (by rw [← e]; exact hj))]
        have hagO : ∀ q ∈ l, O q.1 = q.2 := fun q hq => h2 q (List.mem_append.2 (.inr hq))
        rcases List.mem_append.1 hq with hq | hq
        · simp at hq; subst hq
          obtain ⟨f1, f2⟩ := i4 st' ρ' O hag hagO
          refine ⟨b, arr', T', ?_, by simp, q3, f1, f2⟩
          rw [h1 id (by simp), upd_same, hb2, hb1]
        · refine ObR_phi (i1.ob ρ' O hag hagO q hq) (fun c => ?_)
          have : q.1 ≠ id := fun e => hnd'.1 (e ▸ hkm q hq)
          simp [this]
      · intro q hq
        simp at hq; subst hq
        exact upd_same _ _ _

theorem arg_pI (h : Sim w st ρ φ n a s) (hle : Le hp s.hp) {st1 : Blks} (hst : ∀ b, st b → st1 b) {S : Sh} {id : Nat} {v : Value} {x : S.den} (hq : hp id = .box S (.val S x)) (hv : RV w st ρ s.hp (.ptr id none []) v) :
    ArgOk w st1 ρ φ hp s.hp (.pI S) (.ptr id none []) v x [] [id] := by
  have hO := hle.get hq (by simp)
  obtain ⟨b, arr, T, hb1, hb2, hb3, hb4, hb5, hb6⟩ := box_ptr h hO hv
  refine ⟨fun c => c = b, fun c hc => ⟨id, by simp, hc ▸ hb3⟩, ⟨b, arr, T, hb1, rfl, hb4, Im_up hst hb6⟩, fun j hj => by simp at hj; subst hj; rw [hO]; simp, by simp, fun w' st' oz k k' t nw G hb hz hsame hG hnd => ?_⟩
  cases oz with
  | none => simp [backA] at hb
  | some z =>
    simp only [backA, Option.some.injEq, Prod.mk.injEq] at hb
    obtain ⟨rfl, rfl, rfl⟩ := hb
    obtain ⟨b', arr', T', q1, q2, q3, q4⟩ := hz z rfl
    rw [hb1] at q1; cases q1
    refine ⟨by simp, fun q hq => ?_, fun _ => ρ id, fun j c => j = id ∧ c = b, ⟨?_, ?_, by simp, by simp [Ob.ids, AV.ids], ?_⟩, by simp⟩
    · simp at hq; subst hq
      exact ⟨by simp, by simp only [hO, Tn]⟩
    · rintro j c ⟨rfl, rfl⟩; exact ⟨.inl q2, by simp⟩
    · rintro i j b ⟨rfl, _⟩ ⟨rfl, _⟩; rfl
    · intro ρ' O h1 h2 q hq
      simp at hq; subst hq
      refine ⟨b, arr', T', ?_, ⟨rfl, rfl⟩, q3, Fit_val.2 rfl, q4⟩
      rw [h1 id (by simp), hb2, hb1]

theorem VR_inj {S : Sh} {v : Value} {cs cs' : List Value} (h : VR S v cs) (h' : VR S v cs') : cs = cs' := by
  rcases h with ⟨h1, h2⟩ | ⟨h1, h2⟩ <;> rcases h' with ⟨h3, h4⟩ | ⟨h3, h4⟩
  · rw [h2] at h4
    simp only [Value.agg.injEq] at h4
    simpa using congrArg Array.toList h4
  · rw [h1] at h3; cases h3
  · rw [h1] at h3; cases h3
  · rw [h2, h4]

theorem bif_same {ρ : Nat → Value} {l : List Nat} : (fun id => bif mem id l then ρ id else ρ id) = ρ := by
  funext id; cases mem id l <;> rfl

theorem loan_lay (h : Sim w st ρ φ n a s) (hle : Le hp s.hp) {w' : World} {st' : Blks} {v : AV} : ∀ {S : Sh} {x z : S.den} {D : List Nat} {cs : List Value} {G : Blks} {t : List (Nat × Ob)}, absorb hp S v = some (x, D) → D.Nodup → RC w st ρ s.hp v cs →
    Ow w' S z cs G → loanBack S v z = some t → t.map (·.1) = D ∧ (∀ q ∈ t, Tn (s.hp q.1) q.2) ∧ ∃ φ1, Lay w' st' G t ρ φ1 := by
  induction v with
  | val t0 y =>
    intro S x z D cs G t ht hn hr ho hl
    obtain ⟨e, hf, he, rfl⟩ := absorb_val ht
    have : t = [] := by cases S <;> (simp only [loanBack, Option.some.injEq] at hl; exact hl.symm)
    subst this
    exact ⟨rfl, by simp, _, Lay.nil _ _⟩
  | nilv T e =>
    intro S x z D cs G t ht hn hr ho hl
    cases S with
    | sl T' e' =>
      obtain ⟨_, rfl⟩ := absorb_nil ht
      simp only [loanBack, Option.some.injEq] at hl
      subst hl
      exact ⟨rfl, by simp, _, Lay.nil _ _⟩
    | _ => simp [absorb] at ht
  | sref id ix p =>
    intro S x z D cs G t ht hn hr ho hl
    cases S with
    | sl T e =>
      obtain ⟨rfl, rfl, rfl, hq⟩ := absorb_sref ht
      simp only [loanBack, Option.some.injEq] at hl
      subst hl
      obtain ⟨_, _, ee, hone⟩ := hr
      subst ee
      have hO := hle.get hq (by simp)
      have hob := h.ob id
      rw [hO] at hob
      have hob : Ow w (.sl T e) x [ρ id] (φ id) := hob
      obtain ⟨A, cap, e1⟩ := Ow_sl hob
      obtain ⟨A', cap', e2⟩ := Ow_sl ho
      have hlen : x.length = z.length := by
        rw [e1] at e2
        simp only [Value.slice.injEq] at e2
        exact e2.2.1
      refine ⟨rfl, fun q hq => ?_, fun j c => j = id ∧ G c, ⟨?_, ?_, by simp, by simp [Ob.ids], ?_⟩⟩
      · simp at hq; subst hq
        simp only [hO, Tn]
        refine ⟨trivial, trivial, ?_⟩
        omega
      · rintro j c ⟨rfl, hc⟩; exact ⟨hc, by simp⟩
      · rintro i j b ⟨rfl, _⟩ ⟨rfl, _⟩; rfl
      · intro ρ' O h1 h2 q hq
        simp at hq; subst hq
        show Ow w' (.sl T e) z [ρ' id] _
        rw [h1 id (by simp)]
        exact Ow_up (fun c hc => ⟨rfl, hc⟩) ho
    | _ => simp [absorb] at ht
  | pair u v ihu ihv =>
    intro S x z D cs G t ht hn hr ho hl
    cases S with
    | pair a b =>
      obtain ⟨y1, y2, l, m, e1, e2, _, rfl⟩ := absorb_pair ht
      obtain ⟨c1, c2, rfl, r1, r2⟩ := hr
      obtain ⟨d1, d2, F1, F2, hc, hdis, hF1, hF2, o1, o2⟩ := ho
      have hn' := List.nodup_append.1 hn
      have hlen : c1.length = d1.length := by rw [Ow_len (absorb_Ow h hle e1 hn'.1 r1), Ow_len o1]
      obtain ⟨rfl, rfl⟩ := List.append_inj hc hlen
      simp only [loanBack] at hl
      cases k1 : loanBack a u z.1 with
      | none => rw [k1] at hl; simp at hl
      | some t1 =>
        cases k2 : loanBack b v z.2 with
        | none => rw [k1, k2] at hl; simp at hl
        | some t2 =>
          rw [k1, k2] at hl
          simp only [Option.some.injEq] at hl
          subst hl
          obtain ⟨g1, g2, φ1, g3⟩ := ihu e1 hn'.1 r1 o1 k1
          obtain ⟨q1, q2, φ2, q3⟩ := ihv e2 hn'.2.1 r2 o2 k2
          refine ⟨by rw [List.map_append, g1, q1], fun q hq => ?_, fun id b => φ1 id b ∨ φ2 id b, ?_⟩
          · rcases List.mem_append.1 hq with hq | hq
            · exact g2 q hq
            · exact q2 q hq
          · have := Lay.both (F := G) g3 q3 hdis hF1 hF2 (fun id h1 h2 => by
              rw [g1] at h1; rw [q1] at h2; exact hn'.2.2 id h1 id h2 rfl)
            rw [bif_same] at this
            exact this
    | _ => simp [absorb] at ht
  | _ => intro S x z D cs G t ht; cases S <;> simp [absorb] at ht

theorem arg_loan (h : Sim w st ρ φ n a s) (hle : Le hp s.hp) {st1 : Blks} {S : Sh} {av : AV} {v : Value} {x : S.den} {D : List Nat} (hg : absorb hp S av = some (x, D)) (hnd : D.Nodup) (hv : RV w st ρ s.hp av v) :
    ArgOk w st1 ρ φ hp s.hp (.loan S) av v x [] D := by
  obtain ⟨cs, h1, h2⟩ := absorb_RV hg hv
  refine ⟨fun b => ∃ id ∈ D, φ id b, fun b hb => hb, ⟨cs, h1, absorb_Ow h hle hg hnd h2⟩, fun id hid => ?_, by simp, fun w' st' oz k k' t nw G hb hz hsame hG hn => ?_⟩
  · have := (absorb_ids hg id hid).2
    rw [hle id this]; exact this
  · cases oz with
    | none => simp [backA] at hb
    | some z =>
      simp only [backA] at hb
      cases ht : loanBack S av z with
      | none => rw [ht] at hb; cases hb
      | some t' =>
        rw [ht] at hb; cases hb
        obtain ⟨cs', g1, g2⟩ := hz z rfl
        have hcs : cs' = cs := VR_inj g1 h1
        subst hcs
        obtain ⟨a1, a2, φ1, a3⟩ := loan_lay h hle (st' := st') hg hnd h2 g2 ht
        refine ⟨fun id hid => .inr (by rw [a1]; exact hid), fun q hq => ⟨?_, a2 q hq⟩, ρ, φ1, ?_, fun _ _ => rfl⟩
        · rw [← a1]; exact List.mem_map.2 ⟨q, hq, rfl⟩
        · rw [List.append_nil]; exact a3.up (fun b hb => .inl hb)

theorem arg_ok (h : Sim w st ρ φ n a s) (hle : Le hp s.hp) {m : Mode} {av : AV} {v : Value} {x : m.inSh.den} {dr wr rd : List Nat} (hg : gatherA hp m av = some (x, dr, wr, rd)) (hnd : wr.Nodup) (hv : RV w st ρ s.hp av v)
    {st1 : Blks} (hst : ∀ b, st b ∨ (∃ id ∈ rd, φ id b) → st1 b) : ArgOk w st1 ρ φ hp s.hp m av v x dr wr := by
  cases m with
  | imm S =>
    simp only [gatherA] at hg
    cases ht : toVal hp S av with
    | none => rw [ht] at hg; cases hg
    | some y =>
      rw [ht] at hg; cases hg
      obtain ⟨cs, h1, h2⟩ := toVal_RV ht hv
      exact argOk_none (F := fun _ => False) (fun _ h => h.elim) ⟨cs, h1, Im_up hst (toVal_Im h hle ht h2)⟩ (by simp) (fun _ _ => rfl)
  | own S =>
    simp only [gatherA] at hg
    cases ht : absorb hp S av with
    | none => rw [ht] at hg; cases hg
    | some y =>
      obtain ⟨y, D⟩ := y
      rw [ht] at hg; cases hg
      exact arg_own h hle ht hnd hv
  | loan S =>
    simp only [gatherA] at hg
    cases ht : absorb hp S av with
    | none => rw [ht] at hg; cases hg
    | some y =>
      obtain ⟨y, D⟩ := y
      rw [ht] at hg; cases hg
      exact arg_loan h hle ht hnd hv
  | lend T e =>
    cases av with
    | nilv T' e' =>
      simp only [gatherA] at hg
      split at hg
      · rename_i hee
        cases hg
        obtain ⟨A, ee⟩ := RC_scalar hv rfl rfl (by simp)
        have ee : v = .slice A 0 0 := by simpa using ee
        subst ee
        refine ⟨fun _ => False, fun _ h => h.elim, .inl ⟨rfl, A, rfl⟩, by simp, by simp, fun w' st' oz k k' t nw G hb hz hsame hG hnd => ?_⟩
        cases oz with
        | none => simp [backA] at hb
        | some z =>
          simp only [backA, Option.some.injEq, Prod.mk.injEq] at hb
          obtain ⟨rfl, rfl, rfl⟩ := hb
          exact ⟨by simp, by simp, fun _ => undef, _, Lay.nil _ _, by simp⟩
      · cases hg
    | sref id ix p =>
      cases ix with
      | none =>
        cases p with
        | cons _ _ => simp [gatherA] at hg
        | nil =>
          simp only [gatherA] at hg
          cases hq : hp id with
          | arr T' e' xs =>
            rw [hq] at hg; simp only at hg
            cases hc : cst (.sl T' e') (.sl T e) xs with
            | none => rw [hc] at hg; cases hg
            | some y =>
              rw [hc] at hg; cases hg
              obtain ⟨ee, he⟩ := cst_some hc
              cases ee; cases he
              exact arg_mut0 h hle hq hv
          | _ => rw [hq] at hg; cases hg
      | some i =>
        simp only [gatherA] at hg
        cases hq : hp id with
        | arr T' e' xs =>
          rw [hq] at hg; simp only at hg
          cases hgt : getT e' (rdL xs i) p with
          | none => rw [hgt] at hg; cases hg
          | some q =>
            obtain ⟨sh, y⟩ := q
            rw [hgt] at hg; simp only at hg
            cases hc : cst sh (.sl T e) y with
            | none => rw [hc] at hg; cases hg
            | some z =>
              rw [hc] at hg; cases hg
              obtain ⟨ee, he⟩ := cst_some hc
              subst ee; cases he
              exact arg_mut1 h hle hq hgt hv
        | _ => rw [hq] at hg; cases hg
    | _ => simp [gatherA] at hg
  | pO S =>
    cases av with
    | ptr id ix p =>
      cases ix with
      | some _ => simp [gatherA] at hg
      | none =>
        cases p with
        | cons _ _ => simp [gatherA] at hg
        | nil =>
          simp only [gatherA] at hg
          cases hq : hp id with
          | box S' u =>
            rw [hq] at hg; simp only at hg
            split at hg
            · rename_i hS
              subst hS
              cases ht : absorb hp S' u with
              | none => rw [ht] at hg; cases hg
              | some y =>
                obtain ⟨y, D⟩ := y
                rw [ht] at hg; cases hg
                exact arg_pO h hle hq ht hnd hv
            · cases hg
          | _ => rw [hq] at hg; cases hg
    | _ => simp [gatherA] at hg
  | pI S =>
    cases av with
    | ptr id ix p =>
      cases ix with
      | some _ => simp [gatherA] at hg
      | none =>
        cases p with
        | cons _ _ => simp [gatherA] at hg
        | nil =>
          simp only [gatherA] at hg
          cases hq : hp id with
          | box S' u =>
            rw [hq] at hg
            cases u with
            | val sv xv =>
              simp only at hg
              split at hg
              · rename_i hS
                subst hS
                cases hc : cst sv S' xv with
                | none => rw [hc] at hg; cases hg
                | some y =>
                  rw [hc] at hg; cases hg
                  obtain ⟨ee, he⟩ := cst_some hc
                  subst ee; cases he
                  exact arg_pI h hle (fun b hb => hst b (.inl hb)) hq hv
              · cases hg
            | _ => simp at hg
          | _ => rw [hq] at hg; cases hg
    | _ => simp [gatherA] at hg
  | pR S =>
    cases av with
    | ptr id ix p =>
      cases ix with
      | some _ => simp [gatherA] at hg
      | none =>
        cases p with
        | cons _ _ => simp [gatherA] at hg
        | nil =>
          simp only [gatherA] at hg
          cases hq : capsVal hp [S] [id] with
          | none => rw [hq] at hg; cases hg
          | some y =>
            rw [hq] at hg; cases hg
            obtain ⟨b, of, hpt, e⟩ := RC_scalar hv rfl rfl (by simp)
            obtain ⟨S', s', hS, hr, hs, rfl⟩ := hpt
            rw [off_nil] at e
            have e : v = .pointer (some ⟨b, 0, none⟩) := by simpa using e
            obtain ⟨b', arr, T, fz, vs', q1, q2, q3, q4, _⟩ := capsVal_ok h hle (st1 := st1) hq (fun c hc => hst c (by simpa using hc))
            simp only [List.map_cons, List.map_nil, List.cons.injEq] at q1
            refine argOk_none (F := fun _ => False) (fun _ h => h.elim) ⟨b', arr, T, fz, ?_, q2, q3, q4⟩ (by simp) (fun _ _ => rfl)
            rw [← q1.1, hr, e]
    | _ => simp [gatherA] at hg
  | clo f ss =>
    cases av with
    | fn f' caps =>
      simp only [gatherA] at hg
      cases hf : Nat.beq f f' <;> rw [hf] at hg
      · cases hg
      simp only [cond_true] at hg
      have hff := Nat.eq_of_beq_eq_true hf
      subst hff
      cases hq : capsVal hp ss caps with
      | none => rw [hq] at hg; cases hg
      | some y =>
        rw [hq] at hg; cases hg
        have e : [v] = [.func (.func f) #[] (caps.map ρ).toArray] := RC_scalar hv rfl rfl (by simp)
        have e : v = .func (.func f) #[] (caps.map ρ).toArray := by simpa using e
        exact argOk_none (F := fun _ => False) (fun _ h => h.elim) ⟨caps.map ρ, e, capsVal_ok h hle hq hst⟩ (by simp) (fun _ _ => rfl)
    | _ => simp [gatherA] at hg

end
end Go.Vm
