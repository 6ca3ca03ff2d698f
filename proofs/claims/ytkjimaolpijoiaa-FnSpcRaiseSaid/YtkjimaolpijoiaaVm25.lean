/- Functions: entry. -/
import Derived.Test.YtkjimaolpijoiaaVm24
set_option linter.unusedVariables false
set_option linter.unusedSimpArgs false
namespace Go.Vm

section
variable {P : Program} {X : Ctx} {w : World} {st : Blks} {n : Nat} {s : St}

/-- An argument that comes back, by its objects. -/
def ParM (ρ : Nat → Value) (k : Nat) : (m : Mode) → m.inSh.den → Value → Prop
  | .lend _ _, _, v => ρ k = v
  | .pO _, _, v => ρ k = v
  | .pI _, _, v => ρ k = v
  | .loan S, x, v => ∃ cs, VR S v cs ∧ LoanC ρ S x cs k
  | .imm _, _, _ => True
  | .own _, _, _ => True
  | .pR _, _, _ => True
  | .clo _ _, _, _ => True

def ParV (ρ : Nat → Value) : (ms : List Mode) → (insSh ms).den → List Value → Nat → Prop
  | [], _, _, _ => True
  | m :: ms, x, v :: vs, i => ParM ρ (pseed i) m x.1 v ∧ ParV ρ ms x.2 vs (i + 1)
  | _ :: _, _, [], _ => False

theorem capsInit_ok : ∀ {ss : List Sh} {x : (chain ss).den} {vs : List Value} {k : Nat} {ids : List Nat} {l : List (Nat × Ob)}, CapsR w st ss x vs → capsInit ss x k = (ids, l) → (l.map (·.1)).Nodup →
    ∃ ρ1, Lay w st (fun _ => False) l ρ1 (fun _ _ => False) ∧ l.map (·.1) = ids ∧ ids.map ρ1 = vs
  | [], x, vs, k, ids, l, h, e, hn => by
    cases e
    have h : vs = [] := h
    exact ⟨fun _ => undef, Lay.nil _ _, rfl, by simp [h]⟩
  | s :: ss, x, vs, k, ids, l, ⟨b, arr, T, fz, vs', h1, h2, h3, h4, h5⟩, e, hn => by
    simp only [capsInit] at e
    cases e2 : capsInit ss x.2 (k + 1) with
    | mk ids2 l2 =>
    rw [e2] at e
    simp only [Prod.mk.injEq] at e
    obtain ⟨rfl, rfl⟩ := e
    simp only [List.map_cons, List.nodup_cons] at hn
    obtain ⟨ρ2, g1, g2, g3⟩ := capsInit_ok h5 e2 hn.2
    have hk : ∀ j ∈ l2.map (·.1), j ≠ k := fun j hj e => hn.1 (e ▸ hj)
    refine ⟨Go.Vm.upd ρ2 k (.pointer (some ⟨b, 0, none⟩)), ⟨fun _ _ h => h.elim, fun _ _ _ h => h.elim, fun q hq => ?_, fun q hq id hid => ?_, fun ρ O q1 q2 q hq => ?_⟩, by simp [g2], ?_⟩
    · rcases List.mem_cons.1 hq with rfl | hq
      · simp
      · exact g1.nn q hq
    · rcases List.mem_cons.1 hq with rfl | hq
      · cases hid
      · simp only [List.map_cons, List.mem_cons]; exact .inr (g1.ids q hq id hid)
    · rcases List.mem_cons.1 hq with rfl | hq
      · exact ⟨b, arr, T, fz, by rw [q1 k (by simp), upd_same], h2, h3, h4, fun _ h => h⟩
      · exact g1.ob ρ O (fun j hj => by rw [q1 j (by simp only [List.map_cons, List.mem_cons]; exact .inr hj), upd_ne _ _ (hk j hj)]) (fun q hq => q2 q (by simp [hq])) q hq
    · rw [List.map_cons, upd_same, h1]
      congr 1
      rw [← g3]
      exact List.map_congr_left fun j hj => upd_ne _ _ (hk j (by rw [g2]; exact hj))

theorem initAV_ok {m : Mode} {x : m.inSh.den} {v : Value} {F : Blks} {k : Nat} {av : AV} {l : List (Nat × Ob)} (h : ArgR w st m x v F) (e : initAV m x k = (av, l)) (hn : (l.map (·.1)).Nodup) :
    ∃ ρ1 φ1, Lay w st F l ρ1 φ1 ∧ (∀ id ∈ av.ids, id ∈ l.map (·.1)) ∧ (∀ ρ : Nat → Value, (∀ id ∈ l.map (·.1), ρ id = ρ1 id) → ParM ρ k m x v) ∧ ∀ (ρ : Nat → Value) (O : Nat → Ob), (∀ id ∈ l.map (·.1), ρ id = ρ1 id) → (∀ q ∈ l, O q.1 = q.2) → RV w st ρ O av v := by
  cases m with
  | imm S =>
    cases e
    obtain ⟨cs, h1, h2⟩ := h
    exact ⟨fun _ => undef, _, Lay.nil F _, by simp [AV.ids], fun _ _ => trivial, fun ρ O _ _ => RV_val h2 h1⟩
  | own S =>
    obtain ⟨cs, h1, h2⟩ := h
    simp only [initAV] at e
    cases hi : intro S x k with
    | mk u p =>
    obtain ⟨l2, k2⟩ := p
    rw [hi] at e; cases e
    obtain ⟨ρ1, φ1, i1, i2, i3, i4⟩ := intro_ok (st := st) h2 hi hn
    exact ⟨ρ1, φ1, i1, i2, fun _ _ => trivial, fun ρ O q1 q2 => RV_of_RC (i4 st ρ O q1 q2).1 (i4 st ρ O q1 q2).2 h1⟩
  | loan S =>
    obtain ⟨cs, h1, h2⟩ := h
    simp only [initAV] at e
    cases hi : intro S x k with
    | mk u p =>
    obtain ⟨l2, k2⟩ := p
    rw [hi] at e; cases e
    obtain ⟨ρ1, φ1, i1, i2, i3, i4, _, i6⟩ := intro_ok2 (st := st) h2 hi hn
    exact ⟨ρ1, φ1, i1, i2, fun ρ h => ⟨cs, h1, i6 ρ h⟩, fun ρ O q1 q2 => RV_of_RC (i4 st ρ O q1 q2).1 (i4 st ρ O q1 q2).2 h1⟩
  | lend T el =>
    cases e
    have h : Ow w (.sl T el) x [v] F := h
    have hone : v.oneCell' = true := Ow_ones h v (by simp)
    refine ⟨fun _ => v, fun j b => j = k ∧ F b, ⟨?_, ?_, by simp, by simp [Ob.ids], fun ρ O q1 q2 q hq => ?_⟩, by simp [AV.ids], fun ρ h => h k (by simp), fun ρ O q1 q2 => ?_⟩
    · rintro j b ⟨rfl, hb⟩; exact ⟨hb, by simp⟩
    · rintro i j b ⟨rfl, _⟩ ⟨rfl, _⟩; rfl
    · simp at hq; subst hq
      show Ow w (.sl T el) x [ρ k] _
      rw [q1 k (by simp)]
      exact Ow_up (fun b hb => ⟨rfl, hb⟩) h
    · have hr := q1 k (by simp)
      exact RV_scalar (av := .sref k none []) ⟨rfl, ⟨_, _, _, q2 (k, .arr T el x) (by simp)⟩, by rw [hr], by rw [hr]; exact hone⟩ rfl rfl
  | pO S =>
    obtain ⟨b, arr, T, F', h1, h2, h3, h4, h5, h6⟩ := h
    simp only [initAV] at e
    cases hi : intro S x (k + 1) with
    | mk u p =>
    obtain ⟨l2, k2⟩ := p
    rw [hi] at e; cases e
    simp only [List.map_cons, List.nodup_cons] at hn
    obtain ⟨ρ1, φ1, i1, i2, i3, i4⟩ := intro_ok (st := st) h4 hi hn.2
    refine ⟨Go.Vm.upd ρ1 k v, fun j c => if j = k then c = b else φ1 j c, ⟨fun j c hc => ?_, fun i j c g1 g2 => ?_, fun q hq => ?_, fun q hq id hid => ?_, fun ρ O q1 q2 q hq => ?_⟩, by simp [AV.ids], fun ρ h => (h k (by simp)).trans (upd_same _ _ _), fun ρ O q1 q2 => ?_⟩
    · by_cases hj : j = k
      · simp only [hj, if_true] at hc; subst hc; exact ⟨h2, by simp [hj]⟩
      · simp only [hj, if_false] at hc
        have := i1.sup j c hc
        exact ⟨h6 c this.1, by simp only [List.map_cons, List.mem_cons]; exact .inr this.2⟩
    · by_cases hi : i = k <;> by_cases hj : j = k
      · rw [hi, hj]
      · simp only [hi, if_true] at g1; simp only [hj, if_false] at g2; subst g1
        exact (h5 (i1.sup j c g2).1).elim
      · simp only [hj, if_true] at g2; simp only [hi, if_false] at g1; subst g2
        exact (h5 (i1.sup i c g1).1).elim
      · simp only [hi, hj, if_false] at g1 g2
        exact i1.dj i j c g1 g2
    · rcases List.mem_cons.1 hq with rfl | hq
      · simp
      · exact i1.nn q hq
    · simp only [List.map_cons, List.mem_cons]
      rcases List.mem_cons.1 hq with rfl | hq
      · exact .inr (i2 id hid)
      · exact .inr (i1.ids q hq id hid)
    · have hag : ∀ j ∈ l2.map (·.1), ρ j = ρ1 j := fun j hj => by
        rw [q1 j (by simp only [List.map_cons, List.mem_cons]; exact .inr hj), upd_ne _ _ (fun e : j = k => hn.1 (by rw [← e]; exact hj))]
      have hagO : ∀ q ∈ l2, O q.1 = q.2 := fun q hq => q2 q (by simp [hq])
      rcases List.mem_cons.1 hq with rfl | hq
      · obtain ⟨f1, f2⟩ := i4 st ρ O hag hagO
        exact ⟨b, arr, T, by rw [q1 k (by simp), upd_same, h1], by simp, h3, f1, f2⟩
      · refine ObR_phi (i1.ob ρ O hag hagO q hq) (fun c => ?_)
        have : q.1 ≠ k := fun e => hn.1 (by rw [← e]; exact List.mem_map.2 ⟨q, hq, rfl⟩)
        simp [this]
    · have hr := q1 k (by simp)
      rw [upd_same] at hr
      exact RV_scalar (av := .ptr k none []) ⟨b, 0, ⟨S, S, .inl ⟨_, q2 (k, .box S u) (by simp)⟩, by rw [hr, h1], sub_nil _, (off_nil S).symm⟩, by rw [h1]⟩ rfl rfl
  | pI S =>
    cases e
    obtain ⟨b, arr, T, h1, h2, h3, h4⟩ := h
    refine ⟨fun _ => v, fun j c => j = k ∧ c = b, ⟨?_, ?_, by simp, by simp [Ob.ids, AV.ids], fun ρ O q1 q2 q hq => ?_⟩, by simp [AV.ids], fun ρ h => h k (by simp), fun ρ O q1 q2 => ?_⟩
    · rintro j c ⟨rfl, rfl⟩; exact ⟨h2, by simp⟩
    · rintro i j b ⟨rfl, _⟩ ⟨rfl, _⟩; rfl
    · simp at hq; subst hq
      exact ⟨b, arr, T, by rw [q1 k (by simp), h1], ⟨rfl, rfl⟩, h3, Fit_val.2 rfl, h4⟩
    · have hr := q1 k (by simp)
      exact RV_scalar (av := .ptr k none []) ⟨b, 0, ⟨S, S, .inl ⟨_, q2 (k, .box S (.val S x)) (by simp)⟩, by rw [hr, h1], sub_nil _, (off_nil S).symm⟩, by rw [h1]⟩ rfl rfl
  | pR S =>
    cases e
    obtain ⟨b, arr, T, fz, h1, h2, h3, h4⟩ := h
    refine ⟨fun _ => v, fun _ _ => False, ⟨fun _ _ h => h.elim, fun _ _ _ h => h.elim, by simp, by simp [Ob.ids], fun ρ O q1 q2 q hq => ?_⟩, by simp [AV.ids], fun _ _ => trivial, fun ρ O q1 q2 => ?_⟩
    · simp at hq; subst hq
      exact ⟨b, arr, T, fz, by rw [q1 k (by simp), h1], h2, h3, h4, fun _ h => h⟩
    · have hr := q1 k (by simp)
      exact RV_scalar (av := .ptr k none []) ⟨b, 0, ⟨S, S, .inr ⟨_, q2 (k, .cbox S x) (by simp)⟩, by rw [hr, h1], sub_nil _, (off_nil S).symm⟩, by rw [h1]⟩ rfl rfl
  | clo f ss =>
    obtain ⟨vs, h1, h2⟩ := h
    simp only [initAV] at e
    cases hi : capsInit ss x k with
    | mk ids l2 =>
    rw [hi] at e; cases e
    obtain ⟨ρ1, g1, g2, g3⟩ := capsInit_ok h2 hi hn
    refine ⟨ρ1, _, g1.up (fun _ h => h.elim), fun id hid => by rw [g2]; exact hid, fun _ _ => trivial, fun ρ O q1 q2 => RV_scalar (av := .fn f ids) ?_ rfl rfl⟩
    have : ids.map ρ = vs := by
      rw [← g3]
      exact List.map_congr_left fun j hj => q1 j (by rw [g2]; exact hj)
    show [v] = [_]
    rw [h1, this]

theorem initL_ok : ∀ {ms : List Mode} {x : (insSh ms).den} {vals : List Value} {L : Blks} {i : Nat} {vs : List (Nat × AV)} {ls : List (Nat × Ob)}, ArgsR w st ms x vals L → initL ms x i = (vs, ls) → (ls.map (·.1)).Nodup →
    ∃ ρ1 φ1, Lay w st L ls ρ1 φ1 ∧ (∀ ρ : Nat → Value, (∀ id ∈ ls.map (·.1), ρ id = ρ1 id) → ParV ρ ms x vals i) ∧ vals.length = ms.length ∧ ∀ (ρ : Nat → Value) (O : Nat → Ob), (∀ id ∈ ls.map (·.1), ρ id = ρ1 id) → (∀ q ∈ ls, O q.1 = q.2) →
      ∀ q ∈ vs, ∃ j v, q.1 = i + j ∧ vals[j]? = some v ∧ RV w st ρ O q.2 v ∧ ∀ id ∈ q.2.ids, id ∈ ls.map (·.1)
  | [], x, vals, L, i, vs, ls, h, e, hn => by
    cases e
    have h : vals = [] := h
    exact ⟨fun _ => undef, _, Lay.nil _ _, fun _ _ => trivial, by simp [h], by simp⟩
  | m :: ms, x, vals, L, i, vs, ls, ⟨v, r, F1, F2, h1, h2, h3, h4, h5, h6⟩, e, hn => by
    simp only [initL] at e
    cases e1 : initAV m x.1 (pseed i) with
    | mk av l1 =>
    cases e2 : initL ms x.2 (i + 1) with
    | mk vs2 l2 =>
    rw [e1, e2] at e
    simp only [Prod.mk.injEq] at e
    obtain ⟨rfl, rfl⟩ := e
    subst h1
    rw [List.map_append] at hn
    have hn' := List.nodup_append.1 hn
    have hk : ∀ id, id ∈ l1.map (·.1) → id ∉ l2.map (·.1) := fun id h1 h2 => hn'.2.2 id h1 id h2 rfl
    obtain ⟨ρ1, φ1, a1, a2, a3, a4⟩ := initAV_ok h5 e1 hn'.1
    obtain ⟨ρ2, φ2, b1, b2, b3, b4⟩ := initL_ok h6 e2 hn'.2.1
    refine ⟨_, _, Lay.both (F := L) a1 b1 h2 h3 h4 hk, fun ρ hρ => ⟨a3 ρ (fun id hid => ?_), b2 ρ (fun id hid => ?_)⟩, by simp [b3], fun ρ O q1 q2 q hq => ?_⟩
    · rw [hρ id (by rw [List.map_append, List.mem_append]; exact .inl hid), mem_iff.2 hid]; rfl
    · rw [hρ id (by rw [List.map_append, List.mem_append]; exact .inr hid), mem_false.2 (fun h => hk id h hid)]; rfl
    · rcases List.mem_cons.1 hq with rfl | hq
      · refine ⟨0, v, rfl, rfl, a4 ρ O (fun id hid => by rw [q1 id (by rw [List.map_append, List.mem_append]; exact .inl hid), mem_iff.2 hid]; rfl) (fun q hq => q2 q (by simp [hq])), fun id hid => ?_⟩
        rw [List.map_append, List.mem_append]; exact .inl (a2 id hid)
      · obtain ⟨j, u, g1, g2, g3, g4⟩ := b4 ρ O (fun id hid => by rw [q1 id (by rw [List.map_append, List.mem_append]; exact .inr hid), mem_false.2 (fun h => hk id h hid)]; rfl) (fun q hq => q2 q (by simp [hq])) q hq
        refine ⟨j + 1, u, by omega, by simpa using g2, g3, fun id hid => ?_⟩
        rw [List.map_append, List.mem_append]; exact .inr (g4 id hid)

/-- A function's state as it begins. -/
theorem init_ok {ms : List Mode} {x : (insSh ms).den} {vals : List Value} {L : Blks} {fn : Func} (h : ArgsR w st ms x vals L) (hn : ((initL ms x 0).2.map (·.1)).Nodup) (hnt : X.n = fn.ntmps) (hle : ms.length ≤ X.n)
    (hst : ∀ b, st b → b < w.heap.size ∧ ¬ L b) (hL : ∀ b, L b → b < w.heap.size) :
    ∃ ρ φ, Sim w st ρ φ X.n { tmps := vals.toArray ++ Array.replicate (fn.ntmps - vals.toArray.size) undef, defers := [] } (initSt ms x) ∧ (∀ id b, φ id b → L b) ∧ ParV ρ ms x vals 0 := by
  cases e : initL ms x 0 with
  | mk vs ls =>
  rw [e] at hn
  obtain ⟨ρ, φ, h1, h2, h3, h4⟩ := initL_ok h e hn
  have hO : ∀ q ∈ ls, updL (fun _ => Ob.none) ls q.1 = q.2 := fun q hq => updL_mem _ _ hn hq
  have h5 := h4 ρ (updL (fun _ => Ob.none) ls) (fun _ _ => rfl) hO
  have hlv : ∀ id ∈ ls.map (·.1), updL (fun _ => Ob.none) ls id ≠ .none := fun id hid => by
    obtain ⟨q, hq, rfl⟩ := List.mem_map.1 hid
    rw [hO q hq]; exact h1.nn q hq
  have hs : initSt ms x = ⟨updL (fun _ => .unk) vs, updL (fun _ => .none) ls⟩ := by unfold initSt; rw [e]
  rw [hs]
  refine ⟨ρ, φ, ⟨?_, rfl, fun t ht => ?_, fun t => ?_, fun id => ?_, fun id b hb => ?_, h1.dj, fun t id hid => ?_, fun k id hid => ?_, fun b hb => (hst b hb).1⟩, fun id b hb => (h1.sup id b hb).1, h2 ρ (fun _ _ => rfl)⟩
  · simp; omega
  · rcases updL_in (t := t) vs (fun _ => AV.unk) with he | ⟨v, hv, he⟩
    · exact he
    · obtain ⟨j, u, g1, g2, _⟩ := h5 _ hv
      have := (List.getElem?_eq_some_iff.1 g2).1
      simp only at g1
      omega
  · show RV _ _ _ _ (updL (fun _ => AV.unk) vs t) _
    rcases updL_in (t := t) vs (fun _ => AV.unk) with he | ⟨v, hv, he⟩
    · rw [he]; exact RV_unk _
    · rw [he]
      obtain ⟨j, u, g1, g2, g3, _⟩ := h5 _ hv
      simp only [Nat.zero_add] at g1
      subst g1
      have hlt := (List.getElem?_eq_some_iff.1 g2).1
      have : (vals.toArray ++ Array.replicate (fn.ntmps - vals.toArray.size) undef).getD t undef = u := by
        rw [Array.getD_eq_getD_getElem?, Array.getElem?_append_left (by simpa using hlt)]
        simp [g2]
      rw [this]; exact g3
  · show ObR _ _ _ _ _ _ (updL (fun _ => Ob.none) ls id)
    rcases updL_cases ls (fun _ => Ob.none) id hn with ⟨hk, he⟩ | ⟨v, hv, he⟩
    · rw [he]; exact fun b hb => hk (h1.sup id b hb).2
    · rw [he]; exact h1.ob ρ _ (fun _ _ => rfl) hO (id, v) hv
  · have := (h1.sup id b hb).1
    exact ⟨hL b this, fun hs => (hst b hs).2 this⟩
  · have hid : id ∈ (updL (fun _ => AV.unk) vs t).ids := hid
    rcases updL_in (t := t) vs (fun _ => AV.unk) with he | ⟨v, hv, he⟩
    · rw [he] at hid; cases hid
    · rw [he] at hid
      obtain ⟨j, u, _, _, _, g4⟩ := h5 _ hv
      exact hlv id (g4 id hid)
  · have hid : id ∈ (updL (fun _ => Ob.none) ls k).ids := hid
    rcases updL_cases ls (fun _ => Ob.none) k hn with ⟨hk, he⟩ | ⟨v, hv, he⟩
    · rw [he] at hid; cases hid
    · rw [he] at hid
      exact hlv id (h1.ids (k, v) hv id hid)

end
end Go.Vm
