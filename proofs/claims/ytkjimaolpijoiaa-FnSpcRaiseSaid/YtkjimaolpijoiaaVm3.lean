/- What an abstract state means: slots, variables, arrays; and how that stands steps. -/
import Derived.Test.YtkjimaolpijoiaaVm2
set_option linter.unusedVariables false
set_option linter.unusedSimpArgs false
namespace Go.Vm

/-- The cell that a reference into an object leads to. -/
def PtrAt (O : Ob) (r : Value) : Option Int → List Bool → Nat → Nat → Prop
  | none, p, b, o => ∃ S s, ((∃ v, O = .box S v) ∨ (∃ x, O = .cbox S x)) ∧ r = .pointer (some ⟨b, 0, none⟩) ∧ S.sub p = some s ∧ o = S.off p
  | some i, p, b, o => ∃ T e xs s l c, O = .arr T e xs ∧ r = .slice (some ⟨b, 0, none⟩) l c ∧ 0 ≤ i ∧ i.toNat < xs.length ∧ e.sub p = some s ∧
      o = i.toNat * e.size + e.off p

/-- The cells of a value. -/
def RC (w : World) (st : Blks) (ρ : Nat → Value) (O : Nat → Ob) : AV → List Value → Prop
  | .unk, cs => ∃ v, cs = [v] ∧ v.oneCell' = true
  | .val S x, cs => Im w st S x cs
  | .pair a b, cs => ∃ c1 c2, cs = c1 ++ c2 ∧ RC w st ρ O a c1 ∧ RC w st ρ O b c2
  | .ptr id ix p, cs => ∃ b o, PtrAt (O id) (ρ id) ix p b o ∧ cs = [.pointer (some ⟨b, o, none⟩)]
  | .sref id none p, cs => p = [] ∧ (∃ T e xs, O id = .arr T e xs) ∧ cs = [ρ id] ∧ (ρ id).oneCell' = true
  | .sref id (some i) p, cs => ∃ b o v, PtrAt (O id) (ρ id) (some i) p b o ∧ (∀ T e xs, O id = .arr T e xs → ∃ T' e', e.sub p = some (.sl T' e')) ∧
      w.cell? ⟨b, o, none⟩ = some v ∧ cs = [v] ∧ v.oneCell' = true
  | .nilv _ _, cs => ∃ A, cs = [.slice A 0 0]
  | .iptr S x, cs => ∃ b o cc, cs = [.pointer (some ⟨b, o, none⟩)] ∧ st b ∧ Im w st S x cc ∧ ∀ j v, cc[j]? = some v → w.cell? ⟨b, o + j, none⟩ = some v
  | .nq e, cs => ∃ b : Bool, cs = [.bool b] ∧ (b = true → e = true)
  | .fn f caps, cs => cs = [.func (.func f) #[] (caps.map ρ).toArray]
  | .tnil, _ => False
  | .tcons _ _, _ => False

def AV.agg : AV → Bool
  | .val (.pair _ _) _ => true
  | .pair _ _ => true
  | _ => false

/-- One value that is no tuple. -/
def RV1 (w : World) (st : Blks) (ρ : Nat → Value) (O : Nat → Ob) (a : AV) (v : Value) : Prop :=
  a = .unk ∨ (a.agg = true ∧ ∃ cs, v = .agg cs ∧ RC w st ρ O a cs.toList) ∨ (a.agg = false ∧ RC w st ρ O a [v])

def RT (w : World) (st : Blks) (ρ : Nat → Value) (O : Nat → Ob) : AV → List Value → Prop
  | .tnil, vs => vs = []
  | .tcons a b, vs => ∃ v r, vs = v :: r ∧ RV1 w st ρ O a v ∧ RT w st ρ O b r
  | _, _ => False

/-- A slot's value. -/
def RV (w : World) (st : Blks) (ρ : Nat → Value) (O : Nat → Ob) (a : AV) (v : Value) : Prop :=
  (a.isTup = true ∧ ∃ vs, v = .tuple vs ∧ RT w st ρ O a vs.toList) ∨ (a.isTup = false ∧ RV1 w st ρ O a v)

/-- The value's parts lie as the shape has them. -/
def Fit (O : Nat → Ob) : Sh → AV → Prop
  | S, .val s _ => s = S
  | .pair a b, .pair u v => Fit O a u ∧ Fit O b v
  | .sl T e, .nilv T' e' => T' = T ∧ e' = e
  | .sl T e, .sref id ix p => (∃ xs, ix = none ∧ p = [] ∧ O id = .arr T e xs)
  | .sl _ _, .unk => True
  | _, _ => False

def ObR (w : World) (st : Blks) (ρ : Nat → Value) (φ : Nat → Blks) (O : Nat → Ob) (id : Nat) : Ob → Prop
  | .none => ∀ b, ¬ φ id b
  | .box S v => ∃ b arr T, ρ id = .pointer (some ⟨b, 0, none⟩) ∧ φ id b ∧ w.heap[b]? = some (.cells arr T (0, 0)) ∧ Fit O S v ∧ RC w st ρ O v arr.toList
  | .cbox S x => ∃ b arr T fz, ρ id = .pointer (some ⟨b, 0, none⟩) ∧ st b ∧ w.heap[b]? = some (.cells arr T fz) ∧ Im w st S x arr.toList ∧ ∀ b, ¬ φ id b
  | .arr T e xs => Ow w (.sl T e) xs [ρ id] (φ id)

structure Sim (w : World) (st : Blks) (ρ : Nat → Value) (φ : Nat → Blks) (n : Nat) (a : Act) (s : St) : Prop where
  nt : a.tmps.size = n
  df : a.defers = []
  hi : ∀ t, n ≤ t → s.env t = .unk
  env : ∀ t, RV w st ρ s.hp (s.env t) (a.tmps.getD t undef)
  ob : ∀ id, ObR w st ρ φ s.hp id (s.hp id)
  lt : ∀ id b, φ id b → b < w.heap.size ∧ ¬ st b
  dj : ∀ id id' b, φ id b → φ id' b → id = id'
  wf : ∀ t id, id ∈ (s.env t).ids → s.hp id ≠ .none
  wfh : ∀ k id, id ∈ (s.hp k).ids → s.hp id ≠ .none
  stlt : ∀ b, st b → b < w.heap.size

/-- What a step may turn. -/
structure Fr (w w' : World) (st st' : Blks) (ρ ρ' : Nat → Value) (φ φ' : Nat → Blks) (s s' : St) : Prop where
  os : w'.os = w.os
  tape : w'.tape = w.tape
  output : w'.output = w.output
  size : w.heap.size ≤ w'.heap.size
  keep : ∀ b, b < w.heap.size → (∀ id, ¬ φ id b) → w'.heap[b]? = w.heap[b]?
  st1 : ∀ b, st b → st' b
  st2 : ∀ b, st' b → st b ∨ (∃ id, φ id b) ∨ w.heap.size ≤ b
  ow : ∀ id b, φ' id b → (∃ id, φ id b) ∨ w.heap.size ≤ b
  pid : ∀ id, 5000 ≤ id % 10000 → s'.hp id ≠ .none → s.hp id ≠ .none ∧ ρ' id = ρ id

theorem Fr.refl (w : World) (st : Blks) (ρ : Nat → Value) (φ : Nat → Blks) (s : St) : Fr w w st st ρ ρ φ φ s s :=
  ⟨rfl, rfl, rfl, Nat.le_refl _, fun _ _ _ => rfl, fun _ h => h, fun _ h => .inl h, fun id b h => .inl ⟨id, h⟩, fun _ _ h => ⟨h, rfl⟩⟩

theorem Fr.trans {w w1 w2 : World} {st st1 st2 : Blks} {ρ ρ1 ρ2 : Nat → Value} {φ φ1 φ2 : Nat → Blks} {s s1 s2 : St}
    (h : Fr w w1 st st1 ρ ρ1 φ φ1 s s1) (k : Fr w1 w2 st1 st2 ρ1 ρ2 φ1 φ2 s1 s2) : Fr w w2 st st2 ρ ρ2 φ φ2 s s2 where
  os := k.os.trans h.os
  tape := k.tape.trans h.tape
  output := k.output.trans h.output
  size := Nat.le_trans h.size k.size
  keep b hb hn := by
    rw [k.keep b (Nat.lt_of_lt_of_le hb h.size) (fun id hid => by
      rcases h.ow id b hid with ⟨i, hi⟩ | hi
      · exact hn i hi
      · omega), h.keep b hb hn]
  st1 b hb := k.st1 b (h.st1 b hb)
  st2 b hb := by
    rcases k.st2 b hb with h1 | ⟨id, h1⟩ | h1
    · exact h.st2 b h1
    · rcases h.ow id b h1 with h2 | h2
      · exact .inr (.inl h2)
      · exact .inr (.inr h2)
    · exact .inr (.inr (Nat.le_trans h.size h1))
  ow id b hb := by
    rcases k.ow id b hb with ⟨i, h1⟩ | h1
    · exact h.ow i b h1
    · exact .inr (Nat.le_trans h.size h1)
  pid id hp hn := by
    obtain ⟨h1, h2⟩ := k.pid id hp hn
    obtain ⟨h3, h4⟩ := h.pid id hp h1
    exact ⟨h3, h2.trans h4⟩

/-! ### References stand changes that keep what they lead to -/

/-- What an object was, and is now: the same in what references lean on. -/
def Compat (w w' : World) (O O' : Ob) (r r' : Value) (nested : Bool) : Prop :=
  r' = r ∧
  (match O, O' with
   | .box S _, .box S' _ => S' = S
   | .cbox S _, .cbox S' _ => S' = S
   | .arr T e xs, .arr T' e' xs' => T' = T ∧ e' = e ∧ xs.length ≤ xs'.length
   | _, _ => False) ∧
  (nested = true → ∀ (i : Int) p b o, PtrAt O r (some i) p b o → (∀ T e xs, O = .arr T e xs → ∃ T' e', e.sub p = some (.sl T' e')) →
    w'.cell? ⟨b, o, none⟩ = w.cell? ⟨b, o, none⟩)

theorem Compat.ptr {w w' : World} {O O' : Ob} {r r' : Value} {n : Bool} (h : Compat w w' O O' r r' n) {ix : Option Int} {p : List Bool} {b o : Nat}
    (hp : PtrAt O r ix p b o) : PtrAt O' r' ix p b o := by
  obtain ⟨rfl, h2, _⟩ := h
  cases ix with
  | none =>
    obtain ⟨S, s, hO, hr, hs, ho⟩ := hp
    rcases hO with ⟨v, rfl⟩ | ⟨x, rfl⟩
    · cases O' <;> simp only at h2
      subst h2
      exact ⟨_, s, .inl ⟨_, rfl⟩, hr, hs, ho⟩
    · cases O' <;> simp only at h2
      subst h2
      exact ⟨_, s, .inr ⟨_, rfl⟩, hr, hs, ho⟩
  | some i =>
    obtain ⟨T, e, xs, s, l, c, rfl, hr, h0, hi, hs, ho⟩ := hp
    cases O' <;> simp only at h2
    obtain ⟨rfl, rfl, hl⟩ := h2
    exact ⟨_, _, _, s, l, c, rfl, hr, h0, Nat.lt_of_lt_of_le hi hl, hs, ho⟩

/-- Does the value hold a reference to a slice inside this object's elements? -/
def AV.nests (id : Nat) : AV → Bool
  | .pair a b => a.nests id || b.nests id
  | .sref j (some _) _ => Nat.beq j id
  | .tcons a b => a.nests id || b.nests id
  | _ => false

theorem AV.agg_of_ids {a : AV} : True := trivial

theorem RC_change {w w' : World} {st st' : Blks} {ρ ρ' : Nat → Value} {O O' : Nat → Ob} (hst : ∀ b, st b → st' b) (hw : ∀ b, st b → w'.heap[b]? = w.heap[b]?) :
    ∀ {v : AV} {cs : List Value}, (∀ id ∈ v.ids, Compat w w' (O id) (O' id) (ρ id) (ρ' id) (v.nests id)) → RC w st ρ O v cs → RC w' st' ρ' O' v cs
  | .unk, cs, _, h => h
  | .val S x, cs, _, h => Im_world hst hw h
  | .pair a b, cs, hc, ⟨c1, c2, e, h1, h2⟩ => by
    refine ⟨c1, c2, e, RC_change hst hw (fun id hid => ?_) h1, RC_change hst hw (fun id hid => ?_) h2⟩
    · obtain ⟨h1, h2, h3⟩ := hc id (by simp [AV.ids, hid])
      exact ⟨h1, h2, fun hn => h3 (by simp [AV.nests, hn])⟩
    · obtain ⟨h1, h2, h3⟩ := hc id (by simp [AV.ids, hid])
      exact ⟨h1, h2, fun hn => h3 (by simp [AV.nests, hn])⟩
  | .ptr id ix p, cs, hc, ⟨b, o, h1, h2⟩ => ⟨b, o, (hc id (by simp [AV.ids])).ptr h1, h2⟩
  | .sref id none p, cs, hc, ⟨h1, ⟨T, e, xs, h2⟩, h3, h6⟩ => by
    obtain ⟨h4, h5, _⟩ := hc id (by simp [AV.ids])
    refine ⟨h1, ?_, by rw [h4]; exact h3, by rw [h4]; exact h6⟩
    rw [h2] at h5
    cases hO : O' id <;> rw [hO] at h5 <;> simp only at h5
    exact ⟨_, _, _, rfl⟩
  | .sref id (some i) p, cs, hc, ⟨b, o, v, h1, h2, h3, h4⟩ => by
    have hc' := hc id (by simp [AV.ids])
    refine ⟨b, o, v, hc'.ptr h1, ?_, ?_, h4⟩
    · intro T e xs hO
      obtain ⟨_, h5, _⟩ := hc'
      obtain ⟨T0, e0, xs0, s, l, c, hO0, _⟩ := h1
      rw [hO0, hO] at h5
      simp only at h5
      obtain ⟨rfl, rfl, _⟩ := h5
      exact h2 _ _ _ hO0
    · rw [hc'.2.2 (by simp [AV.nests]) i p b o h1 h2]; exact h3
  | .nilv _ _, cs, _, h => h
  | .iptr S x, cs, _, ⟨b, o, cc, h1, h2, h3, h4⟩ => ⟨b, o, cc, h1, hst b h2, Im_world hst hw h3, fun j v hv => by rw [cell_of_blk (hw b h2)]; exact h4 j v hv⟩
  | .nq e, cs, _, h => h
  | .fn f caps, cs, hc, h => by
    have : caps.map ρ' = caps.map ρ := List.map_congr_left fun id hid => (hc id (by simpa [AV.ids] using hid)).1
    show cs = _
    rw [this]; exact h
  | .tnil, cs, _, h => h.elim
  | .tcons _ _, cs, _, h => h.elim

theorem RV1_change {w w' : World} {st st' : Blks} {ρ ρ' : Nat → Value} {O O' : Nat → Ob} (hst : ∀ b, st b → st' b) (hw : ∀ b, st b → w'.heap[b]? = w.heap[b]?)
    {v : AV} {x : Value} (hc : ∀ id ∈ v.ids, Compat w w' (O id) (O' id) (ρ id) (ρ' id) (v.nests id)) (h : RV1 w st ρ O v x) : RV1 w' st' ρ' O' v x := by
  rcases h with h | ⟨ha, cs, e, h⟩ | ⟨ha, h⟩
  · exact .inl h
  · exact .inr (.inl ⟨ha, cs, e, RC_change hst hw hc h⟩)
  · exact .inr (.inr ⟨ha, RC_change hst hw hc h⟩)

theorem RT_change {w w' : World} {st st' : Blks} {ρ ρ' : Nat → Value} {O O' : Nat → Ob} (hst : ∀ b, st b → st' b) (hw : ∀ b, st b → w'.heap[b]? = w.heap[b]?) :
    ∀ {v : AV} {xs : List Value}, (∀ id ∈ v.ids, Compat w w' (O id) (O' id) (ρ id) (ρ' id) (v.nests id)) → RT w st ρ O v xs → RT w' st' ρ' O' v xs
  | .tnil, xs, _, h => h
  | .tcons a b, xs, hc, ⟨v, r, e, h1, h2⟩ => by
    refine ⟨v, r, e, RV1_change hst hw (fun id hid => ?_) h1, RT_change hst hw (fun id hid => ?_) h2⟩
    · obtain ⟨h1, h2, h3⟩ := hc id (by simp [AV.ids, hid])
      exact ⟨h1, h2, fun hn => h3 (by simp [AV.nests, hn])⟩
    · obtain ⟨h1, h2, h3⟩ := hc id (by simp [AV.ids, hid])
      exact ⟨h1, h2, fun hn => h3 (by simp [AV.nests, hn])⟩

theorem RV_change {w w' : World} {st st' : Blks} {ρ ρ' : Nat → Value} {O O' : Nat → Ob} (hst : ∀ b, st b → st' b) (hw : ∀ b, st b → w'.heap[b]? = w.heap[b]?)
    {v : AV} {x : Value} (hc : ∀ id ∈ v.ids, Compat w w' (O id) (O' id) (ρ id) (ρ' id) (v.nests id)) (h : RV w st ρ O v x) : RV w' st' ρ' O' v x := by
  rcases h with ⟨ht, vs, e, h⟩ | ⟨ht, h⟩
  · exact .inl ⟨ht, vs, e, RT_change hst hw hc h⟩
  · exact .inr ⟨ht, RV1_change hst hw hc h⟩

theorem Fit_change {O O' : Nat → Ob} : ∀ {S : Sh} {v : AV}, (∀ id ∈ v.ids, ∀ T e xs, O id = .arr T e xs → ∃ xs', O' id = .arr T e xs') → Fit O S v → Fit O' S v
  | S, .val s x, _, h => by cases S <;> exact h
  | .pair a b, .pair u v, hc, ⟨h1, h2⟩ => ⟨Fit_change (fun id hid => hc id (by simp [AV.ids, hid])) h1, Fit_change (fun id hid => hc id (by simp [AV.ids, hid])) h2⟩
  | .sl T e, .nilv T' e', _, h => h
  | .sl T e, .sref id ix p, hc, ⟨xs, h1, h2, h3⟩ => by
    obtain ⟨xs', h4⟩ := hc id (by simp [AV.ids]) T e xs h3
    exact ⟨xs', h1, h2, h4⟩
  | .sl _ _, .unk, _, _ => trivial
  | .sl _ _, .pair _ _, _, h => h.elim
  | .sl _ _, .ptr _ _ _, _, h => h.elim
  | .sl _ _, .iptr _ _, _, h => h.elim
  | .sl _ _, .nq _, _, h => h.elim
  | .sl _ _, .fn _ _, _, h => h.elim
  | .sl _ _, .tnil, _, h => h.elim
  | .sl _ _, .tcons _ _, _, h => h.elim
  | .pair _ _, .unk, _, h => h.elim
  | .pair _ _, .ptr _ _ _, _, h => h.elim
  | .pair _ _, .sref _ _ _, _, h => h.elim
  | .pair _ _, .nilv _ _, _, h => h.elim
  | .pair _ _, .iptr _ _, _, h => h.elim
  | .pair _ _, .nq _, _, h => h.elim
  | .pair _ _, .fn _ _, _, h => h.elim
  | .pair _ _, .tnil, _, h => h.elim
  | .pair _ _, .tcons _ _, _, h => h.elim
  | .int _, .unk, _, h => h.elim
  | .int _, .pair _ _, _, h => h.elim
  | .int _, .ptr _ _ _, _, h => h.elim
  | .int _, .sref _ _ _, _, h => h.elim
  | .int _, .nilv _ _, _, h => h.elim
  | .int _, .iptr _ _, _, h => h.elim
  | .int _, .nq _, _, h => h.elim
  | .int _, .fn _ _, _, h => h.elim
  | .int _, .tnil, _, h => h.elim
  | .int _, .tcons _ _, _, h => h.elim
  | .bool, .unk, _, h => h.elim
  | .bool, .pair _ _, _, h => h.elim
  | .bool, .ptr _ _ _, _, h => h.elim
  | .bool, .sref _ _ _, _, h => h.elim
  | .bool, .nilv _ _, _, h => h.elim
  | .bool, .iptr _ _, _, h => h.elim
  | .bool, .nq _, _, h => h.elim
  | .bool, .fn _ _, _, h => h.elim
  | .bool, .tnil, _, h => h.elim
  | .bool, .tcons _ _, _, h => h.elim
  | .str, .unk, _, h => h.elim
  | .str, .pair _ _, _, h => h.elim
  | .str, .ptr _ _ _, _, h => h.elim
  | .str, .sref _ _ _, _, h => h.elim
  | .str, .nilv _ _, _, h => h.elim
  | .str, .iptr _ _, _, h => h.elim
  | .str, .nq _, _, h => h.elim
  | .str, .fn _ _, _, h => h.elim
  | .str, .tnil, _, h => h.elim
  | .str, .tcons _ _, _, h => h.elim
  | .unit, .unk, _, h => h.elim
  | .unit, .pair _ _, _, h => h.elim
  | .unit, .ptr _ _ _, _, h => h.elim
  | .unit, .sref _ _ _, _, h => h.elim
  | .unit, .nilv _ _, _, h => h.elim
  | .unit, .iptr _ _, _, h => h.elim
  | .unit, .nq _, _, h => h.elim
  | .unit, .fn _ _, _, h => h.elim
  | .unit, .tnil, _, h => h.elim
  | .unit, .tcons _ _, _, h => h.elim

theorem RC_ones {w : World} {st : Blks} {ρ : Nat → Value} {O : Nat → Ob} : ∀ {v : AV} {cs : List Value}, RC w st ρ O v cs → Ones cs
  | .unk, _, ⟨v, e, h⟩ => by rw [e]; intro x hx; simp at hx; subst hx; exact h
  | .val S x, _, h => Im_ones h
  | .pair a b, _, ⟨c1, c2, e, h1, h2⟩ => by
    rw [e]; intro x hx
    rcases List.mem_append.1 hx with h | h
    · exact RC_ones h1 x h
    · exact RC_ones h2 x h
  | .ptr _ _ _, _, ⟨b, o, _, e⟩ => by rw [e]; intro x hx; simp at hx; subst hx; rfl
  | .sref _ none _, _, ⟨_, _, e, h⟩ => by rw [e]; intro x hx; simp at hx; subst hx; exact h
  | .sref _ (some _) _, _, ⟨b, o, v, _, _, _, e, h⟩ => by rw [e]; intro x hx; simp at hx; subst hx; exact h
  | .nilv _ _, _, ⟨A, e⟩ => by rw [e]; intro x hx; simp at hx; subst hx; rfl
  | .iptr _ _, _, ⟨b, o, cc, e, _⟩ => by rw [e]; intro x hx; simp at hx; subst hx; rfl
  | .nq _, _, ⟨b, e, _⟩ => by rw [e]; intro x hx; simp at hx; subst hx; rfl
  | .fn _ _, _, e => by
    have e : _ = _ := e
    rw [e]; intro x hx; simp at hx; subst hx; rfl
  | .tnil, _, h => h.elim
  | .tcons _ _, _, h => h.elim

/-! ### Forgetting -/
theorem ids_scrub {D : List Nat} : ∀ {a : AV} {id : Nat}, id ∈ (a.scrub D).ids → id ∈ a.ids ∧ id ∉ D
  | .pair a b, id, h => by
    simp only [AV.scrub, AV.ids, List.mem_append] at h ⊢
    rcases h with h | h
    · exact ⟨.inl (ids_scrub h).1, (ids_scrub h).2⟩
    · exact ⟨.inr (ids_scrub h).1, (ids_scrub h).2⟩
  | .tcons a b, id, h => by
    simp only [AV.scrub, AV.ids, List.mem_append] at h ⊢
    rcases h with h | h
    · exact ⟨.inl (ids_scrub h).1, (ids_scrub h).2⟩
    · exact ⟨.inr (ids_scrub h).1, (ids_scrub h).2⟩
  | .ptr j ix p, id, h => by
    simp only [AV.scrub] at h
    cases hm : mem j D <;> rw [hm] at h <;> simp [AV.ids] at h ⊢
    subst h; exact ⟨rfl, mem_false.1 hm⟩
  | .sref j ix p, id, h => by
    simp only [AV.scrub] at h
    cases hm : mem j D <;> rw [hm] at h <;> simp [AV.ids] at h ⊢
    subst h; exact ⟨rfl, mem_false.1 hm⟩
  | .fn f caps, id, h => by
    simp only [AV.scrub] at h
    cases hm : disj caps D <;> rw [hm] at h <;> simp [AV.ids] at h ⊢
    exact ⟨h, disj_iff.1 hm id h⟩
  | .unk, _, h => by simp [AV.scrub, AV.ids] at h
  | .val _ _, _, h => by simp [AV.scrub, AV.ids] at h
  | .nilv _ _, _, h => by simp [AV.scrub, AV.ids] at h
  | .iptr _ _, _, h => by simp [AV.scrub, AV.ids] at h
  | .nq _, _, h => by simp [AV.scrub, AV.ids] at h
  | .tnil, _, h => by simp [AV.scrub, AV.ids] at h

theorem RC_scrub {w : World} {st : Blks} {ρ : Nat → Value} {O : Nat → Ob} {D : List Nat} : ∀ {v : AV} {cs : List Value}, RC w st ρ O v cs → RC w st ρ O (v.scrub D) cs
  | .pair a b, cs, ⟨c1, c2, e, h1, h2⟩ => ⟨c1, c2, e, RC_scrub h1, RC_scrub h2⟩
  | .ptr id ix p, cs, h => by
    simp only [AV.scrub]
    cases mem id D
    · exact h
    · obtain ⟨b, o, _, e⟩ := h; exact ⟨_, e, rfl⟩
  | .sref id none p, cs, h => by
    simp only [AV.scrub]
    cases mem id D
    · exact h
    · obtain ⟨_, _, e, h⟩ := h; exact ⟨_, e, h⟩
  | .sref id (some i) p, cs, h => by
    simp only [AV.scrub]
    cases mem id D
    · exact h
    · obtain ⟨_, _, v, _, _, _, e, h⟩ := h; exact ⟨_, e, h⟩
  | .fn f caps, cs, h => by
    simp only [AV.scrub]
    cases disj caps D
    · exact ⟨_, h, rfl⟩
    · exact h
  | .unk, _, h => h
  | .val _ _, _, h => h
  | .nilv _ _, _, h => h
  | .iptr _ _, _, h => h
  | .nq _, _, h => h
  | .tnil, _, h => h.elim
  | .tcons _ _, _, h => h.elim

theorem RV1_scrub {w : World} {st : Blks} {ρ : Nat → Value} {O : Nat → Ob} {D : List Nat} {a : AV} {v : Value} (h : RV1 w st ρ O a v) : RV1 w st ρ O (a.scrub D) v := by
  rcases h with rfl | ⟨ha, cs, e, h⟩ | ⟨ha, h⟩
  · exact .inl rfl
  · refine .inr (.inl ⟨?_, cs, e, RC_scrub h⟩)
    cases a <;> simp_all [AV.agg, AV.scrub]
  · have h' := RC_scrub (D := D) h
    refine .inr (.inr ⟨?_, h'⟩)
    cases a <;> simp only [AV.scrub] at h' ⊢ <;> first | exact ha | (cases mem _ D <;> rfl) | (cases disj _ D <;> rfl)

theorem RT_scrub {w : World} {st : Blks} {ρ : Nat → Value} {O : Nat → Ob} {D : List Nat} : ∀ {a : AV} {vs : List Value}, RT w st ρ O a vs → RT w st ρ O (a.scrub D) vs
  | .tnil, _, h => h
  | .tcons a b, _, ⟨v, r, e, h1, h2⟩ => ⟨v, r, e, RV1_scrub h1, RT_scrub h2⟩

theorem RV_scrub {w : World} {st : Blks} {ρ : Nat → Value} {O : Nat → Ob} {D : List Nat} {a : AV} {v : Value} (h : RV w st ρ O a v) : RV w st ρ O (a.scrub D) v := by
  rcases h with ⟨ht, vs, e, h⟩ | ⟨ht, h⟩
  · refine .inl ⟨?_, vs, e, RT_scrub h⟩
    cases a <;> simp_all [AV.isTup, AV.scrub]
  · refine .inr ⟨?_, RV1_scrub h⟩
    cases a <;> simp only [AV.scrub] <;> first | exact ht | (cases mem _ D <;> rfl) | (cases disj _ D <;> rfl)

theorem Fit_scrub {O : Nat → Ob} {D : List Nat} : ∀ {S : Sh} {v : AV}, Fit O S v → Fit O S (v.scrub D)
  | .pair a b, .pair u v, ⟨h1, h2⟩ => ⟨Fit_scrub h1, Fit_scrub h2⟩
  | .sl T e, .sref id ix p, h => by
    simp only [AV.scrub]
    cases mem id D
    · exact h
    · trivial
  | S, .val s x, h => by cases S <;> exact h
  | .sl T e, .nilv _ _, h => h
  | .sl _ _, .unk, _ => trivial

theorem ids_killN {D : List Nat} : ∀ {a : AV} {id : Nat}, id ∈ (a.killN D).ids → id ∈ a.ids
  | .pair a b, id, h => by
    simp only [AV.killN, AV.ids, List.mem_append] at h ⊢
    rcases h with h | h
    · exact .inl (ids_killN h)
    · exact .inr (ids_killN h)
  | .tcons a b, id, h => by
    simp only [AV.killN, AV.ids, List.mem_append] at h ⊢
    rcases h with h | h
    · exact .inl (ids_killN h)
    · exact .inr (ids_killN h)
  | .sref j (some i) p, id, h => by
    simp only [AV.killN] at h
    cases hm : mem j D <;> rw [hm] at h <;> simp [AV.ids] at h ⊢
    exact h
  | .sref j none p, id, h => h
  | .ptr _ _ _, _, h => h
  | .fn _ _, _, h => h
  | .unk, _, h => h
  | .val _ _, _, h => h
  | .nilv _ _, _, h => h
  | .iptr _ _, _, h => h
  | .nq _, _, h => h
  | .tnil, _, h => h

theorem nests_killN {D : List Nat} {id : Nat} (hd : id ∈ D) : ∀ {a : AV}, (a.killN D).nests id = false
  | .pair a b => by simp [AV.killN, AV.nests, nests_killN hd]
  | .tcons a b => by simp [AV.killN, AV.nests, nests_killN hd]
  | .sref j (some i) p => by
    simp only [AV.killN]
    cases hm : mem j D
    · simp only [cond_false, AV.nests]
      rw [Bool.eq_false_iff]; intro e
      have := Nat.eq_of_beq_eq_true e
      subst this
      exact (mem_false.1 hm) hd
    · rfl
  | .sref j none p => rfl
  | .ptr _ _ _ => rfl
  | .fn _ _ => rfl
  | .unk => rfl
  | .val _ _ => rfl
  | .nilv _ _ => rfl
  | .iptr _ _ => rfl
  | .nq _ => rfl
  | .tnil => rfl

theorem RC_killN {w : World} {st : Blks} {ρ : Nat → Value} {O : Nat → Ob} {D : List Nat} : ∀ {v : AV} {cs : List Value}, RC w st ρ O v cs → RC w st ρ O (v.killN D) cs
  | .pair a b, cs, ⟨c1, c2, e, h1, h2⟩ => ⟨c1, c2, e, RC_killN h1, RC_killN h2⟩
  | .ptr id ix p, cs, h => h
  | .sref id none p, cs, h => h
  | .sref id (some i) p, cs, h => by
    simp only [AV.killN]
    cases mem id D
    · exact h
    · obtain ⟨_, _, v, _, _, _, e, h⟩ := h; exact ⟨_, e, h⟩
  | .fn f caps, cs, h => h
  | .unk, _, h => h
  | .val _ _, _, h => h
  | .nilv _ _, _, h => h
  | .iptr _ _, _, h => h
  | .nq _, _, h => h
  | .tnil, _, h => h.elim
  | .tcons _ _, _, h => h.elim

theorem RV1_killN {w : World} {st : Blks} {ρ : Nat → Value} {O : Nat → Ob} {D : List Nat} {a : AV} {v : Value} (h : RV1 w st ρ O a v) : RV1 w st ρ O (a.killN D) v := by
  rcases h with rfl | ⟨ha, cs, e, h⟩ | ⟨ha, h⟩
  · exact .inl rfl
  · refine .inr (.inl ⟨?_, cs, e, RC_killN h⟩)
    cases a <;> simp_all [AV.agg, AV.killN]
  · have h' := RC_killN (D := D) h
    refine .inr (.inr ⟨?_, h'⟩)
    cases a with
    | sref j ix p => cases ix <;> simp only [AV.killN] <;> first | rfl | (cases mem j D <;> rfl)
    | _ => exact ha

theorem RT_killN {w : World} {st : Blks} {ρ : Nat → Value} {O : Nat → Ob} {D : List Nat} : ∀ {a : AV} {vs : List Value}, RT w st ρ O a vs → RT w st ρ O (a.killN D) vs
  | .tnil, _, h => h
  | .tcons a b, _, ⟨v, r, e, h1, h2⟩ => ⟨v, r, e, RV1_killN h1, RT_killN h2⟩

theorem RV_killN {w : World} {st : Blks} {ρ : Nat → Value} {O : Nat → Ob} {D : List Nat} {a : AV} {v : Value} (h : RV w st ρ O a v) : RV w st ρ O (a.killN D) v := by
  rcases h with ⟨ht, vs, e, h⟩ | ⟨ht, h⟩
  · refine .inl ⟨?_, vs, e, RT_killN h⟩
    cases a <;> simp_all [AV.isTup, AV.killN]
  · refine .inr ⟨?_, RV1_killN h⟩
    cases a with
    | sref j ix p => cases ix <;> simp only [AV.killN] <;> first | rfl | (cases mem j D <;> rfl)
    | _ => exact ht

theorem Fit_killN {O : Nat → Ob} {D : List Nat} : ∀ {S : Sh} {v : AV}, Fit O S v → Fit O S (v.killN D)
  | .pair a b, .pair u v, ⟨h1, h2⟩ => ⟨Fit_killN h1, Fit_killN h2⟩
  | .sl T e, .sref id none p, h => h
  | .sl T e, .sref id (some i) p, h => by
    obtain ⟨_, h1, _⟩ := h; cases h1
  | S, .val s x, h => by cases S <;> exact h
  | .sl T e, .nilv _ _, h => h
  | .sl _ _, .unk, _ => trivial

/-! ### States -/
theorem Compat.refl_map {w : World} (f : AV → AV) {o : Ob} {r : Value} {n : Bool} (h : o ≠ .none) : Compat w w o (o.mapA f) r r n := by
  refine ⟨rfl, ?_, fun _ _ _ _ _ _ _ => rfl⟩
  cases o <;> simp_all [Ob.mapA]

theorem Ob.mapA_none {f : AV → AV} {o : Ob} : o.mapA f = .none ↔ o = .none := by cases o <;> simp [Ob.mapA]

section
variable {w : World} {st : Blks} {ρ : Nat → Value} {φ : Nat → Blks} {n : Nat} {a : Act} {s : St}

/-- Forgetting what some references are told, none of the objects. -/
theorem Sim.mapA (h : Sim w st ρ φ n a s) (f : AV → AV) (hids : ∀ v id, id ∈ (f v).ids → id ∈ v.ids) (hunk : f .unk = .unk)
    (hRV : ∀ O v x, RV w st ρ O v x → RV w st ρ O (f v) x) (hRC : ∀ O v cs, RC w st ρ O v cs → RC w st ρ O (f v) cs)
    (hFit : ∀ O S v, Fit O S v → Fit O S (f v)) : Sim w st ρ φ n a (s.mapA f) := by
  have hc : ∀ id, s.hp id ≠ .none → ∀ m, Compat w w (s.hp id) ((s.mapA f).hp id) (ρ id) (ρ id) m := fun id hn m => Compat.refl_map f hn
  have hids' : ∀ id T e xs, s.hp id = .arr T e xs → ∃ xs', (s.mapA f).hp id = .arr T e xs' := fun id T e xs he => ⟨xs, by simp [St.mapA, he, Ob.mapA]⟩
  refine ⟨h.nt, h.df, fun t ht => by show f (s.env t) = _; rw [h.hi t ht, hunk], fun t => ?_, fun id => ?_, h.lt, h.dj, fun t id hid => ?_, fun k id hid => ?_, h.stlt⟩
  · exact RV_change (fun _ h => h) (fun _ _ => rfl) (fun id hid => hc id (h.wf t id (hids _ _ hid)) _) (hRV _ _ _ (h.env t))
  · have ho := h.ob id
    show ObR w st ρ φ _ id ((s.hp id).mapA f)
    cases hi : s.hp id with
    | none => rw [hi] at ho; exact ho
    | box S v =>
      rw [hi] at ho
      obtain ⟨b, arr, T, h1, h2, h3, h4, h5⟩ := ho
      have hl : ∀ j ∈ (f v).ids, s.hp j ≠ .none := fun j hj => h.wfh id j (by rw [hi]; exact hids _ _ hj)
      exact ⟨b, arr, T, h1, h2, h3, Fit_change (fun j hj T e xs he => hids' j T e xs he) (hFit _ _ _ h4),
        RC_change (fun _ h => h) (fun _ _ => rfl) (fun j hj => hc j (hl j hj) _) (hRC _ _ _ h5)⟩
    | cbox S x => rw [hi] at ho; exact ho
    | arr T e xs => rw [hi] at ho; exact ho
  · have := h.wf t id (hids _ _ hid)
    simpa [St.mapA, Ob.mapA_none] using this
  · have : id ∈ (s.hp k).ids := by
      have hid' : id ∈ ((s.hp k).mapA f).ids := hid
      cases hk : s.hp k with
      | box S v => rw [hk] at hid'; exact hids _ _ hid'
      | _ => rw [hk] at hid'; exact hid'
    have := h.wfh k id this
    simpa [St.mapA, Ob.mapA_none] using this

theorem Sim.killN (h : Sim w st ρ φ n a s) (D : List Nat) : Sim w st ρ φ n a (s.killN D) := by
  cases D with
  | nil => exact h
  | cons d D => exact h.mapA _ (fun _ _ => ids_killN) rfl (fun _ _ _ => RV_killN) (fun _ _ _ => RC_killN) (fun _ _ _ => Fit_killN)

/-- Objects taken away, and all references to them. -/
theorem Sim.scrub (h : Sim w st ρ φ n a s) (D : List Nat) : Sim w st ρ (fun id b => φ id b ∧ id ∉ D) n a (s.scrub D) := by
  cases D with
  | nil =>
    have : (fun id b => φ id b ∧ id ∉ []) = φ := by funext id b; simp
    rw [this]; exact h
  | cons d D' =>
    generalize hD : d :: D' = D
    have hs : s.scrub D = ⟨fun t => (s.env t).scrub D, fun id => bif mem id D then .none else (s.hp id).mapA (AV.scrub D)⟩ := by subst hD; rfl
    rw [hs]
    have hO : ∀ id, id ∉ D → (bif mem id D then Ob.none else (s.hp id).mapA (AV.scrub D)) = (s.hp id).mapA (AV.scrub D) := fun id hid => by rw [mem_false.2 hid]; rfl
    have hc : ∀ id, id ∉ D → s.hp id ≠ .none → ∀ m, Compat w w (s.hp id) (bif mem id D then Ob.none else (s.hp id).mapA (AV.scrub D)) (ρ id) (ρ id) m :=
      fun id hid hn m => by rw [hO id hid]; exact Compat.refl_map _ hn
    refine ⟨h.nt, h.df, fun t ht => by show (s.env t).scrub D = _; rw [h.hi t ht]; rfl, fun t => ?_, fun id => ?_, fun id b hb => h.lt id b hb.1, fun i j b h1 h2 => h.dj i j b h1.1 h2.1, fun t id hid => ?_, fun k id hid => ?_, h.stlt⟩
    · exact RV_change (fun _ h => h) (fun _ _ => rfl) (fun id hid => hc id (ids_scrub hid).2 (h.wf t id (ids_scrub hid).1) _) (RV_scrub (h.env t))
    · have ho := h.ob id
      show ObR w st ρ _ _ id (bif mem id D then Ob.none else (s.hp id).mapA (AV.scrub D))
      by_cases hid : id ∈ D
      · rw [mem_iff.2 hid]
        exact fun b hb => hb.2 hid
      · rw [hO id hid]
        have hφ : (fun b => φ id b ∧ id ∉ D) = φ id := by funext b; simp [hid]
        cases hi : s.hp id with
        | none => rw [hi] at ho; exact fun b hb => ho b hb.1
        | box S v =>
          rw [hi] at ho
          obtain ⟨b, arr, T, h1, h2, h3, h4, h5⟩ := ho
          have hl : ∀ j ∈ (v.scrub D).ids, j ∉ D ∧ s.hp j ≠ .none := fun j hj => ⟨(ids_scrub hj).2, h.wfh id j (by rw [hi]; exact (ids_scrub hj).1)⟩
          exact ⟨b, arr, T, h1, ⟨h2, hid⟩, h3, Fit_change (fun j hj T e xs he => ⟨xs, by show (bif mem j D then Ob.none else (s.hp j).mapA (AV.scrub D)) = _; rw [hO j (hl j hj).1, he]; rfl⟩) (Fit_scrub h4),
            RC_change (fun _ h => h) (fun _ _ => rfl) (fun j hj => hc j (hl j hj).1 (hl j hj).2 _) (RC_scrub h5)⟩
        | cbox S x =>
          rw [hi] at ho
          obtain ⟨b, arr, T, fz, h1, h2, h3, h4, h5⟩ := ho
          exact ⟨b, arr, T, fz, h1, h2, h3, h4, fun b hb => h5 b hb.1⟩
        | arr T e xs =>
          rw [hi] at ho
          show Ow w (.sl T e) xs [ρ id] (fun b => φ id b ∧ id ∉ D)
          rw [hφ]; exact ho
    · have h1 := h.wf t id (ids_scrub hid).1
      show (bif mem id D then Ob.none else (s.hp id).mapA (AV.scrub D)) ≠ .none
      rw [hO id (ids_scrub hid).2]; simpa [Ob.mapA_none] using h1
    · have h2 : id ∈ (s.hp k).ids ∧ id ∉ D := by
        have hid' : id ∈ (bif mem k D then Ob.none else (s.hp k).mapA (AV.scrub D)).ids := hid
        cases hk : mem k D
        · rw [hk] at hid'
          cases hk2 : s.hp k with
          | box S v => rw [hk2] at hid'; exact ids_scrub hid'
          | _ => rw [hk2] at hid'; simp [Ob.mapA, Ob.ids] at hid'
        · rw [hk] at hid'; simp [Ob.ids] at hid'
      show (bif mem id D then Ob.none else (s.hp id).mapA (AV.scrub D)) ≠ .none
      rw [hO id h2.2]; simpa [Ob.mapA_none] using h.wfh k id h2.1

/-- A slot gets a value. -/
theorem Sim.put (h : Sim w st ρ φ n a s) (dst : Option Nat) (v : Value) (av : AV) (hd : ∀ d, dst = some d → d < n)
    (hv : RV w st ρ s.hp av v) (hl : ∀ id ∈ av.ids, s.hp id ≠ .none) : Sim w st ρ φ n (a.put dst v) (s.put dst av) := by
  cases dst with
  | none => exact h
  | some d =>
    have hdn := hd d rfl
    refine ⟨by simp [Act.put, h.nt], h.df, fun t ht => ?_, fun t => ?_, h.ob, h.lt, h.dj, fun t id hid => ?_, h.wfh, h.stlt⟩
    · show upd s.env d av t = _
      rw [upd_ne _ _ (by omega)]; exact h.hi t ht
    · show RV w st ρ s.hp (upd s.env d av t) ((a.tmps.setIfInBounds d v).getD t undef)
      by_cases htd : t = d
      · subst htd
        rw [upd_same]
        have : (a.tmps.setIfInBounds t v).getD t undef = v := by
          have := h.nt
          simp [Array.getD, show t < a.tmps.size by omega]
        rw [this]; exact hv
      · rw [upd_ne _ _ htd]
        have : (a.tmps.setIfInBounds d v).getD t undef = a.tmps.getD t undef := by
          simp [Array.getElem?_setIfInBounds_ne (Ne.symm htd)]
        rw [this]; exact h.env t
    · have hid' : id ∈ (upd s.env d av t).ids := hid
      by_cases htd : t = d
      · subst htd; rw [upd_same] at hid'; exact hl id hid'
      · rw [upd_ne _ _ htd] at hid'; exact h.wf t id hid'

theorem RV_unk {O : Nat → Ob} (v : Value) : RV w st ρ O .unk v := .inr ⟨rfl, .inl rfl⟩

/-- Objects turned or made. -/
theorem Sim.upd {w' : World} {st' : Blks} {ρ' : Nat → Value} {φ' : Nat → Blks} {up : List (Nat × Ob)} (h : Sim w st ρ φ n a s)
    (hnd : (up.map (·.1)).Nodup) (hst : ∀ b, st b → st' b) (hw : ∀ b, st b → w'.heap[b]? = w.heap[b]?)
    (hold : ∀ id, id ∉ up.map (·.1) → ρ' id = ρ id ∧ φ' id = φ id ∧ ∀ b, φ id b → w'.heap[b]? = w.heap[b]?)
    (hnn : ∀ q ∈ up, q.2 ≠ .none)
    (hob : ∀ q ∈ up, ObR w' st' ρ' φ' (updL s.hp up) q.1 q.2)
    (nst : Nat → Bool)
    (hcomp : ∀ q ∈ up, s.hp q.1 ≠ .none → Compat w w' (s.hp q.1) q.2 (ρ q.1) (ρ' q.1) (nst q.1))
    (hnst : ∀ q ∈ up, nst q.1 = false → (∀ t, (s.env t).nests q.1 = false) ∧ ∀ k S v, s.hp k = .box S v → v.nests q.1 = false)
    (hlt : ∀ id b, φ' id b → b < w'.heap.size ∧ ¬ st' b) (hdj : ∀ id id' b, φ' id b → φ' id' b → id = id')
    (hstlt : ∀ b, st' b → b < w'.heap.size) (hwfh : ∀ q ∈ up, ∀ id ∈ q.2.ids, updL s.hp up id ≠ .none) :
    Sim w' st' ρ' φ' n a ⟨s.env, updL s.hp up⟩ := by
  have hlive : ∀ id, s.hp id ≠ .none → updL s.hp up id ≠ .none := fun id hid => by
    rcases updL_cases up s.hp id hnd with ⟨_, e⟩ | ⟨v, hv, e⟩
    · rw [e]; exact hid
    · rw [e]; exact hnn _ hv
  have hc : ∀ (v : AV), (∀ id, nst id = false → id ∈ up.map (·.1) → v.nests id = false) → ∀ id, s.hp id ≠ .none →
      Compat w w' (s.hp id) (updL s.hp up id) (ρ id) (ρ' id) (v.nests id) := fun v hvn id hid => by
    rcases updL_cases up s.hp id hnd with ⟨hn, e⟩ | ⟨u, hu, e⟩
    · rw [e]
      obtain ⟨h1, h2, h3⟩ := hold id hn
      refine ⟨h1, ?_, fun _ i p b o hp _ => ?_⟩
      · revert hid; cases s.hp id <;> intro hid <;> first | exact absurd rfl hid | rfl | exact ⟨rfl, rfl, Nat.le_refl _⟩
      · obtain ⟨T, el, xs, sh, l, c, h4, h5, h6, h7, _⟩ := hp
        have ho := h.ob id
        rw [h4] at ho
        rcases ho with ⟨rfl, A, hA⟩ | ⟨b', cap, arr, F', hA, hF, _⟩
        · simp at h7
        · rw [h5] at hA; cases hA
          exact cell_of_blk (h3 _ hF)
    · rw [e]
      obtain ⟨h1, h2, h3⟩ := hcomp _ hu hid
      refine ⟨h1, h2, fun hn => ?_⟩
      by_cases hns : nst id = true
      · exact h3 hns
      · have := hvn id (by simpa using hns) (List.mem_map.2 ⟨_, hu, rfl⟩)
        rw [this] at hn; cases hn
  have hne : ∀ t id, nst id = false → id ∈ up.map (·.1) → (s.env t).nests id = false := fun t id hn hm => by
    obtain ⟨q, hq, rfl⟩ := List.mem_map.1 hm
    exact (hnst q hq hn).1 t
  refine ⟨h.nt, h.df, h.hi, fun t => ?_, fun id => ?_, hlt, hdj, fun t id hid => hlive id (h.wf t id hid), fun k id hid => ?_, hstlt⟩
  · exact RV_change hst hw (fun id hid => hc _ (hne t) id (h.wf t id hid)) (h.env t)
  · show ObR w' st' ρ' φ' (updL s.hp up) id (updL s.hp up id)
    rcases updL_cases up s.hp id hnd with ⟨hn, e⟩ | ⟨u, hu, e⟩
    · rw [e]
      obtain ⟨h1, h2, h3⟩ := hold id hn
      have ho := h.ob id
      cases hi : s.hp id with
      | none => rw [hi] at ho; show ∀ b, ¬ φ' id b; rw [h2]; exact ho
      | box S v =>
        rw [hi] at ho
        obtain ⟨b, arr, T, h4, h5, h6, h7, h8⟩ := ho
        refine ⟨b, arr, T, by rw [h1]; exact h4, by rw [h2]; exact h5, by rw [h3 b h5]; exact h6, ?_, ?_⟩
        · refine Fit_change (fun j hj T e xs he => ?_) h7
          have := (hc .unk (fun _ _ _ => rfl) j (by rw [he]; simp)).2.1
          rw [he] at this
          cases hj2 : updL s.hp up j <;> rw [hj2] at this <;> simp only at this
          obtain ⟨rfl, rfl, _⟩ := this
          exact ⟨_, rfl⟩
        · refine RC_change hst hw (fun j hj => hc v (fun id hn hm => ?_) j (h.wfh id j (by rw [hi]; exact hj))) h8
          obtain ⟨q, hq, rfl⟩ := List.mem_map.1 hm
          exact (hnst q hq hn).2 _ S v hi
      | cbox S x =>
        rw [hi] at ho
        obtain ⟨b, arr, T, fz, h4, h5, h6, h7, h8⟩ := ho
        exact ⟨b, arr, T, fz, by rw [h1]; exact h4, hst b h5, by rw [hw b h5]; exact h6, Im_world hst hw h7, by rw [h2]; exact h8⟩
      | arr T e xs =>
        rw [hi] at ho
        show Ow w' (.sl T e) xs [ρ' id] (φ' id)
        rw [h1, h2]
        exact Ow_world h3 ho
    · rw [e]; exact hob _ hu
  · have hid' : id ∈ (updL s.hp up k).ids := hid
    rcases updL_cases up s.hp k hnd with ⟨_, e⟩ | ⟨u, hu, e⟩
    · rw [e] at hid'; exact hlive id (h.wfh k id hid')
    · rw [e] at hid'; exact hwfh _ hu id hid'

/-- The world grows, or turns where nothing that is known lies. -/
theorem Sim.world {w' : World} (h : Sim w st ρ φ n a s) (hw : ∀ b, st b → w'.heap[b]? = w.heap[b]?) (hφ : ∀ id b, φ id b → w'.heap[b]? = w.heap[b]?)
    (hsz : w.heap.size ≤ w'.heap.size) : Sim w' st ρ φ n a s := by
  have := Sim.upd (up := []) (w' := w') (st' := st) (ρ' := ρ) (φ' := φ) h List.nodup_nil (fun _ h => h) hw (fun id _ => ⟨rfl, rfl, hφ id⟩)
    (by simp) (by simp) (fun _ => true) (by simp) (by simp) (fun id b hb => ⟨Nat.lt_of_lt_of_le (h.lt id b hb).1 hsz, (h.lt id b hb).2⟩) h.dj
    (fun b hb => Nat.lt_of_lt_of_le (h.stlt b hb) hsz) (by simp)
  exact this
end

end Go.Vm
