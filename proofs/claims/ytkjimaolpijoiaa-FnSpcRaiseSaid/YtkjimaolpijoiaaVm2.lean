/- What abstract values and objects mean in the model's memory, and how that stands changes of memory. -/
import Derived.Test.YtkjimaolpijoiaaVm1
import Derived.Laws.AppendOwn
import Derived.Laws.MakeOwn
import Derived.Laws.CopyRow
set_option linter.unusedVariables false
set_option linter.unusedSimpArgs false
namespace Go.Vm

/-! ### Numbers in lists -/
theorem mem_iff {x : Nat} : ∀ {l : List Nat}, mem x l = true ↔ x ∈ l
  | [] => by simp [mem]
  | y :: r => by
    have ih := @mem_iff x r
    simp only [mem, Bool.or_eq_true, List.mem_cons, ih]
    constructor
    · rintro (h | h)
      · exact .inl (Nat.eq_of_beq_eq_true h)
      · exact .inr h
    · rintro (h | h)
      · exact .inl (by subst h; exact Nat.beq_refl _)
      · exact .inr h

theorem mem_false {x : Nat} {l : List Nat} : mem x l = false ↔ x ∉ l := by
  rw [← mem_iff]; simp

theorem nodup_iff : ∀ {l : List Nat}, nodup l = true ↔ l.Nodup
  | [] => by simp [nodup]
  | x :: r => by simp [nodup, @nodup_iff r, ← mem_iff]

theorem disj_iff {m : List Nat} : ∀ {l : List Nat}, disj l m = true ↔ ∀ x ∈ l, x ∉ m
  | [] => by simp [disj]
  | x :: r => by simp [disj, @disj_iff m r, ← mem_iff]

theorem subl_iff {m : List Nat} : ∀ {l : List Nat}, subl l m = true ↔ ∀ x ∈ l, x ∈ m
  | [] => by simp [subl]
  | x :: r => by simp [subl, @subl_iff m r, ← mem_iff]

theorem upd_same {α : Type} (f : Nat → α) (k : Nat) (v : α) : upd f k v k = v := by simp [upd]
theorem upd_ne {α : Type} (f : Nat → α) {k t : Nat} (v : α) (h : t ≠ k) : upd f k v t = f t := by
  have : Nat.beq t k = false := by rw [Bool.eq_false_iff]; intro e; exact h (Nat.eq_of_beq_eq_true e)
  simp [upd, this]

theorem updL_not {α : Type} : ∀ (l : List (Nat × α)) (f : Nat → α) {t : Nat}, t ∉ l.map (·.1) → updL f l t = f t
  | [], f, t, _ => rfl
  | x :: r, f, t, h => by
    simp only [List.map_cons, List.mem_cons, not_or] at h
    rw [updL, updL_not r _ h.2, upd_ne _ _ h.1]

theorem updL_mem {α : Type} : ∀ (l : List (Nat × α)) (f : Nat → α) {t : Nat} {v : α}, (l.map (·.1)).Nodup → (t, v) ∈ l → updL f l t = v
  | x :: r, f, t, v, hn, h => by
    simp only [List.map_cons, List.nodup_cons] at hn
    rcases List.mem_cons.1 h with rfl | h
    · rw [updL, updL_not r _ hn.1, upd_same]
    · exact updL_mem r _ hn.2 h

theorem updL_cases {α : Type} : ∀ (l : List (Nat × α)) (f : Nat → α) (t : Nat), (l.map (·.1)).Nodup →
    (t ∉ l.map (·.1) ∧ updL f l t = f t) ∨ ∃ v, (t, v) ∈ l ∧ updL f l t = v := by
  intro l f t hn
  by_cases h : t ∈ l.map (·.1)
  · obtain ⟨x, hx, rfl⟩ := List.mem_map.1 h
    exact .inr ⟨x.2, hx, updL_mem l f hn hx⟩
  · exact .inl ⟨h, updL_not l f h⟩

/-! ### Memory -/
abbrev Blks := Nat → Prop

/-- Single cells. -/
def Ones (cs : List Value) : Prop := ∀ v ∈ cs, v.oneCell' = true

/-- A value that is read alone: its memory lies in blocks of 'st'. -/
def Im (w : World) (st : Blks) : (S : Sh) → S.den → List Value → Prop
  | .int k, x, cs => cs = [.int k x]
  | .bool, x, cs => cs = [.bool x]
  | .str, x, cs => cs = [.string x]
  | .unit, _, cs => cs = []
  | .pair a b, x, cs => ∃ c1 c2, cs = c1 ++ c2 ∧ Im w st a x.1 c1 ∧ Im w st b x.2 c2
  | .sl _ e, xs, cs => ∃ (A : Option Addr) (cap : Nat), cs = [.slice A xs.length cap] ∧ xs.length ≤ cap ∧
      (xs ≠ [] → ∃ b o, A = some ⟨b, o, none⟩ ∧ st b ∧ ∀ (i : Nat) (x : e.den), xs[i]? = some x → ∃ cc, Im w st e x cc ∧
        ∀ j v, cc[j]? = some v → w.cell? ⟨b, o + i * e.size + j, none⟩ = some v)

/-- Elements one behind the other. -/
def OwL {α : Type} (R : α → List Value → Blks → Prop) (sz : Nat) : List α → List Value → Blks → Prop
  | [], _, _ => True
  | x :: xs, cs, F => ∃ F1 F2 : Blks, (∀ b, F1 b → F2 b → False) ∧ (∀ b, F1 b → F b) ∧ (∀ b, F2 b → F b) ∧
      R x (cs.take sz) F1 ∧ OwL R sz xs (cs.drop sz) F2

/-- A value that owns all its memory, blocks of 'F'. -/
def Ow (w : World) : (S : Sh) → S.den → List Value → Blks → Prop
  | .int k, x, cs, _ => cs = [.int k x]
  | .bool, x, cs, _ => cs = [.bool x]
  | .str, x, cs, _ => cs = [.string x]
  | .unit, _, cs, _ => cs = []
  | .pair a b, x, cs, F => ∃ c1 c2 F1 F2, cs = c1 ++ c2 ∧ (∀ b, F1 b → F2 b → False) ∧ (∀ b, F1 b → F b) ∧ (∀ b, F2 b → F b) ∧
      Ow w a x.1 c1 F1 ∧ Ow w b x.2 c2 F2
  | .sl T e, xs, cs, F => (xs = [] ∧ ∃ A, cs = [.slice A 0 0]) ∨
      ∃ (b cap : Nat) (arr : Array Value) (F' : Blks), cs = [.slice (some ⟨b, 0, none⟩) xs.length cap] ∧ F b ∧ ¬ F' b ∧ (∀ c, F' c → F c) ∧
        w.heap[b]? = some (.cells arr T (0, 0)) ∧ xs.length ≤ cap ∧ cap ≤ maxLen ∧ arr.size = cap * e.size ∧ OwL (fun x c G => Ow w e x c G) e.size xs arr.toList F'

theorem OwL_mono {α : Type} {R R' : α → List Value → Blks → Prop} {sz : Nat} : ∀ {xs : List α} {cs : List Value} {F : Blks},
    (∀ x c G, (∀ b, G b → F b) → R x c G → R' x c G) → OwL R sz xs cs F → OwL R' sz xs cs F
  | [], _, _, _, _ => trivial
  | x :: xs, cs, F, h, ⟨F1, F2, h1, h2, h3, h4, h5⟩ =>
    ⟨F1, F2, h1, h2, h3, h _ _ _ h2 h4, OwL_mono (fun x c G hG => h x c G (fun b hb => h3 b (hG b hb))) h5⟩

theorem OwL_up {α : Type} {R : α → List Value → Blks → Prop} {sz : Nat} : ∀ {xs : List α} {cs : List Value} {F F' : Blks},
    (∀ b, F b → F' b) → OwL R sz xs cs F → OwL R sz xs cs F'
  | [], _, _, _, _, _ => trivial
  | x :: xs, cs, F, F', h, ⟨F1, F2, h1, h2, h3, h4, h5⟩ => ⟨F1, F2, h1, fun b hb => h b (h2 b hb), fun b hb => h b (h3 b hb), h4, h5⟩

theorem Ow_up {w : World} : ∀ {S : Sh} {x : S.den} {cs : List Value} {F F' : Blks}, (∀ b, F b → F' b) → Ow w S x cs F → Ow w S x cs F'
  | .int _, _, _, _, _, _, h => h
  | .bool, _, _, _, _, _, h => h
  | .str, _, _, _, _, _, h => h
  | .unit, _, _, _, _, _, h => h
  | .pair _ _, _, _, _, _, hF, ⟨c1, c2, F1, F2, e, d, h1, h2, h3, h4⟩ => ⟨c1, c2, F1, F2, e, d, fun b hb => hF b (h1 b hb), fun b hb => hF b (h2 b hb), h3, h4⟩
  | .sl _ _, _, _, _, _, hF, h => by
    rcases h with h | ⟨b, cap, arr, F', e, h1, h2, h3, h4⟩
    · exact .inl h
    · exact .inr ⟨b, cap, arr, F', e, hF _ h1, h2, fun c hc => hF _ (h3 c hc), h4⟩

/-- What is owned stands every change of other blocks. -/
theorem Ow_world {w w' : World} : ∀ {S : Sh} {x : S.den} {cs : List Value} {F : Blks}, (∀ b, F b → w'.heap[b]? = w.heap[b]?) → Ow w S x cs F → Ow w' S x cs F
  | .int _, _, _, _, _, h => h
  | .bool, _, _, _, _, h => h
  | .str, _, _, _, _, h => h
  | .unit, _, _, _, _, h => h
  | .pair _ _, _, _, _, hF, ⟨c1, c2, F1, F2, e, d, h1, h2, h3, h4⟩ =>
    ⟨c1, c2, F1, F2, e, d, h1, h2, Ow_world (fun b hb => hF b (h1 b hb)) h3, Ow_world (fun b hb => hF b (h2 b hb)) h4⟩
  | .sl _ e, _, _, _, hF, h => by
    rcases h with h | ⟨b, cap, arr, F', e, h1, h2, h3, h4, h5, h6, h7, h8⟩
    · exact .inl h
    · exact .inr ⟨b, cap, arr, F', e, h1, h2, h3, by rw [hF b h1]; exact h4, h5, h6, h7,
        OwL_mono (fun x c G hG hr => Ow_world (fun b hb => hF b (h3 b (hG b hb))) hr) h8⟩

theorem cell_of_blk {w w' : World} {b o : Nat} (h : w'.heap[b]? = w.heap[b]?) : w'.cell? ⟨b, o, none⟩ = w.cell? ⟨b, o, none⟩ :=
  World.cell?_of_block (a := ⟨b, o, none⟩) h

theorem Im_world {w w' : World} {st st' : Blks} (hst : ∀ b, st b → st' b) (hw : ∀ b, st b → w'.heap[b]? = w.heap[b]?) :
    ∀ {S : Sh} {x : S.den} {cs : List Value}, Im w st S x cs → Im w' st' S x cs
  | .int _, _, _, h => h
  | .bool, _, _, h => h
  | .str, _, _, h => h
  | .unit, _, _, h => h
  | .pair _ _, _, _, ⟨c1, c2, e, h1, h2⟩ => ⟨c1, c2, e, Im_world hst hw h1, Im_world hst hw h2⟩
  | .sl _ e, xs, _, ⟨A, cap, e1, h1, h2⟩ => ⟨A, cap, e1, h1, fun hne => by
      obtain ⟨b, o, hA, hb, hel⟩ := h2 hne
      refine ⟨b, o, hA, hst b hb, fun i x hx => ?_⟩
      obtain ⟨cc, h3, h4⟩ := hel i x hx
      exact ⟨cc, Im_world hst hw h3, fun j v hv => by rw [cell_of_blk (hw b hb)]; exact h4 j v hv⟩⟩

theorem Im_len {w : World} {st : Blks} : ∀ {S : Sh} {x : S.den} {cs : List Value}, Im w st S x cs → cs.length = S.size
  | .int _, _, _, h => by cases h; rfl
  | .bool, _, _, h => by cases h; rfl
  | .str, _, _, h => by cases h; rfl
  | .unit, _, _, h => by cases h; rfl
  | .pair _ _, _, _, ⟨c1, c2, e, h1, h2⟩ => by rw [e, List.length_append, Im_len h1, Im_len h2]; rfl
  | .sl _ _, _, _, ⟨A, cap, e1, _⟩ => by rw [e1]; rfl

theorem Im_ones {w : World} {st : Blks} : ∀ {S : Sh} {x : S.den} {cs : List Value}, Im w st S x cs → Ones cs
  | .int _, _, _, h => by cases h; intro v hv; simp at hv; subst hv; rfl
  | .bool, _, _, h => by cases h; intro v hv; simp at hv; subst hv; rfl
  | .str, _, _, h => by cases h; intro v hv; simp at hv; subst hv; rfl
  | .unit, _, _, h => by cases h; intro v hv; simp at hv
  | .pair _ _, _, _, ⟨c1, c2, e, h1, h2⟩ => by
    intro v hv; rw [e] at hv
    rcases List.mem_append.1 hv with h | h
    · exact Im_ones h1 v h
    · exact Im_ones h2 v h
  | .sl _ _, _, _, ⟨A, cap, e1, _⟩ => by rw [e1]; intro v hv; simp at hv; subst hv; rfl

theorem Ow_len {w : World} : ∀ {S : Sh} {x : S.den} {cs : List Value} {F : Blks}, Ow w S x cs F → cs.length = S.size
  | .int _, _, _, _, h => by cases h; rfl
  | .bool, _, _, _, h => by cases h; rfl
  | .str, _, _, _, h => by cases h; rfl
  | .unit, _, _, _, h => by cases h; rfl
  | .pair _ _, _, _, _, ⟨c1, c2, F1, F2, e, _, _, _, h1, h2⟩ => by rw [e, List.length_append, Ow_len h1, Ow_len h2]; rfl
  | .sl _ _, _, _, _, h => by
    rcases h with ⟨_, A, e⟩ | ⟨b, cap, arr, F', e, _⟩ <;> rw [e] <;> rfl

theorem Ow_ones {w : World} : ∀ {S : Sh} {x : S.den} {cs : List Value} {F : Blks}, Ow w S x cs F → Ones cs
  | .int _, _, _, _, h => by cases h; intro v hv; simp at hv; subst hv; rfl
  | .bool, _, _, _, h => by cases h; intro v hv; simp at hv; subst hv; rfl
  | .str, _, _, _, h => by cases h; intro v hv; simp at hv; subst hv; rfl
  | .unit, _, _, _, h => by cases h; intro v hv; simp at hv
  | .pair _ _, _, _, _, ⟨c1, c2, F1, F2, e, _, _, _, h1, h2⟩ => by
    intro v hv; rw [e] at hv
    rcases List.mem_append.1 hv with h | h
    · exact Ow_ones h1 v h
    · exact Ow_ones h2 v h
  | .sl _ _, _, _, _, h => by
    rcases h with ⟨_, A, e⟩ | ⟨b, cap, arr, F', e, _⟩ <;> rw [e] <;> intro v hv <;> simp at hv <;> subst hv <;> rfl

/-! Elements. -/
theorem OwL_get {α : Type} {R : α → List Value → Blks → Prop} {sz : Nat} : ∀ {xs : List α} {cs : List Value} {F : Blks} {i : Nat} {x : α},
    OwL R sz xs cs F → xs[i]? = some x → ∃ F1, (∀ b, F1 b → F b) ∧ R x ((cs.drop (i * sz)).take sz) F1
  | x :: xs, cs, F, 0, y, ⟨F1, F2, _, h2, _, h4, _⟩, e => by
    simp at e; subst e; exact ⟨F1, h2, by simpa using h4⟩
  | x :: xs, cs, F, i + 1, y, ⟨F1, F2, _, _, h3, _, h5⟩, e => by
    obtain ⟨G, hG, hr⟩ := OwL_get h5 (by simpa using e)
    refine ⟨G, fun b hb => h3 b (hG b hb), ?_⟩
    rw [List.drop_drop] at hr
    rwa [show (i + 1) * sz = sz + i * sz by rw [Nat.add_mul]; omega]


theorem seg_eq {cs cs' : List Value} {a n : Nat} (h : ∀ k, a ≤ k → k < a + n → cs'[k]? = cs[k]?) : (cs'.drop a).take n = (cs.drop a).take n := by
  apply List.ext_getElem?
  intro k
  simp only [List.getElem?_take, List.getElem?_drop]
  split
  · exact h _ (by omega) (by omega)
  · rfl

/-- An element of a row: what it owns, and the row behind a change of it. -/
theorem OwL_sub {α : Type} {R : α → List Value → Blks → Prop} {sz : Nat} : ∀ {xs : List α} {cs : List Value} {F : Blks} {i : Nat} {x : α},
    OwL R sz xs cs F → xs[i]? = some x → ∃ F1 : Blks, (∀ b, F1 b → F b) ∧ R x ((cs.drop (i * sz)).take sz) F1 ∧
      ∀ (R' : α → List Value → Blks → Prop) (cs' : List Value) (G : Blks) (y : α),
        (∀ x' c H, (∀ b, H b → F b) → (∀ b, H b → ¬ F1 b) → R x' c H → R' x' c H) →
        (∀ k, (k < i * sz ∨ i * sz + sz ≤ k) → cs'[k]? = cs[k]?) →
        (∀ b, G b → F b → F1 b) → R' y ((cs'.drop (i * sz)).take sz) G →
        OwL R' sz (xs.set i y) cs' (fun b => (F b ∧ ¬ F1 b) ∨ G b)
  | x :: xs, cs, F, 0, x', ⟨F1, F2, h1, h2, h3, h4, h5⟩, e => by
    simp at e; subst e
    refine ⟨F1, h2, by simpa using h4, fun R' cs' G y hR hc hG hy => ?_⟩
    refine ⟨G, F2, fun b hg h => h1 b (hG b hg (h3 b h)) h, fun b hg => .inr hg, fun b h => .inl ⟨h3 b h, fun h' => h1 b h' h⟩, by simpa using hy, ?_⟩
    have e : cs'.drop sz = cs.drop sz := by
      apply List.ext_getElem?
      intro k
      simp only [List.getElem?_drop]
      exact hc _ (.inr (by omega))
    rw [e]
    exact OwL_mono (fun x c H hH hr => hR x c H (fun b hb => h3 b (hH b hb)) (fun b hb h' => h1 b h' (hH b hb)) hr) h5
  | x :: xs, cs, F, i + 1, x', ⟨F1, F2, h1, h2, h3, h4, h5⟩, e => by
    obtain ⟨F', hF', hr, hset⟩ := OwL_sub h5 (by simpa using e)
    refine ⟨F', fun b hb => h3 b (hF' b hb), ?_, fun R' cs' G y hR hc hG hy => ?_⟩
    · rw [List.drop_drop] at hr
      rwa [show (i + 1) * sz = sz + i * sz by rw [Nat.add_mul]; omega]
    · have ht := hset R' (cs'.drop sz) G y
        (fun x' c H hH hn hr => hR x' c H (fun b hb => h3 b (hH b hb)) hn hr)
        (fun k hk => by
          simp only [List.getElem?_drop]
          exact hc _ (by rw [Nat.add_mul]; omega))
        (fun b hg hb => hG b hg (h3 b hb))
        (by rw [List.drop_drop]; rwa [show (i + 1) * sz = sz + i * sz by rw [Nat.add_mul]; omega] at hy)
      have e1 : cs'.take sz = cs.take sz := by
        have := seg_eq (cs := cs) (cs' := cs') (a := 0) (n := sz) (fun k _ hk => hc k (.inl (by rw [Nat.add_mul]; omega)))
        simpa using this
      refine ⟨F1, fun b => (F2 b ∧ ¬ F' b) ∨ G b, ?_, fun b hb => .inl ⟨h2 b hb, fun h' => h1 b hb (hF' b h')⟩, ?_, ?_, ht⟩
      · rintro b hb (⟨h', _⟩ | hg)
        · exact h1 b hb h'
        · exact h1 b hb (hF' b (hG b hg (h2 b hb)))
      · rintro b (⟨h', hn⟩ | hg)
        · exact .inl ⟨h3 b h', hn⟩
        · exact .inr hg
      · rw [e1]
        exact hR x _ F1 h2 (fun b hb h' => h1 b hb (hF' b h')) h4

/-! Parts. -/
theorem sub_size : ∀ {S : Sh} {p : List Bool} {s : Sh}, S.sub p = some s → S.off p + s.size ≤ S.size
  | S, [], s, h => by
    have : S = s := by cases S <;> simpa [Sh.sub] using h
    subst this
    have : S.off [] = 0 := by cases S <;> rfl
    omega
  | .pair a b, false :: p, s, h => by
    have := sub_size (S := a) (p := p) (by simpa [Sh.sub] using h)
    simp only [Sh.off, Sh.size]; omega
  | .pair a b, true :: p, s, h => by
    have := sub_size (S := b) (p := p) (by simpa [Sh.sub] using h)
    simp only [Sh.off, Sh.size]; omega
  | .int _, _ :: _, _, h => by simp [Sh.sub] at h
  | .bool, _ :: _, _, h => by simp [Sh.sub] at h
  | .str, _ :: _, _, h => by simp [Sh.sub] at h
  | .sl _ _, _ :: _, _, h => by simp [Sh.sub] at h
  | .unit, _ :: _, _, h => by simp [Sh.sub] at h

theorem getT_nil (S : Sh) (x : S.den) : getT S x [] = some ⟨S, x⟩ := by cases S <;> rfl
theorem off_nil (S : Sh) : S.off [] = 0 := by cases S <;> rfl
theorem sub_nil (S : Sh) : S.sub [] = some S := by cases S <;> rfl

theorem getT_sub : ∀ {S : Sh} {x : S.den} {p : List Bool} {s : Sh} {y : s.den}, getT S x p = some ⟨s, y⟩ → S.sub p = some s
  | S, x, [], s, y, h => by rw [getT_nil] at h; cases h; exact sub_nil _
  | .pair a b, x, false :: p, s, y, h => by simp only [getT] at h; simpa [Sh.sub] using getT_sub h
  | .pair a b, x, true :: p, s, y, h => by simp only [getT] at h; simpa [Sh.sub] using getT_sub h
  | .int _, _, _ :: _, _, _, h => by simp [getT] at h
  | .bool, _, _ :: _, _, _, h => by simp [getT] at h
  | .str, _, _ :: _, _, _, h => by simp [getT] at h
  | .sl _ _, _, _ :: _, _, _, h => by simp [getT] at h
  | .unit, _, _ :: _, _, _, h => by simp [getT] at h

theorem getT_some : ∀ {S : Sh} {p : List Bool} {s : Sh}, S.sub p = some s → ∀ x : S.den, ∃ y, getT S x p = some ⟨s, y⟩
  | S, [], s, h, x => by rw [sub_nil] at h; cases h; exact ⟨x, getT_nil _ _⟩
  | .pair a b, false :: p, s, h, x => getT_some (S := a) (by simpa [Sh.sub] using h) x.1
  | .pair a b, true :: p, s, h, x => getT_some (S := b) (by simpa [Sh.sub] using h) x.2
  | .int _, _ :: _, _, h, _ => by simp [Sh.sub] at h
  | .bool, _ :: _, _, h, _ => by simp [Sh.sub] at h
  | .str, _ :: _, _, h, _ => by simp [Sh.sub] at h
  | .sl _ _, _ :: _, _, h, _ => by simp [Sh.sub] at h
  | .unit, _ :: _, _, h, _ => by simp [Sh.sub] at h

theorem drop_left {a b : List Value} {n m : Nat} (h : n + m ≤ a.length) : ((a ++ b).drop n).take m = (a.drop n).take m := by
  rw [List.drop_append_of_le_length (by omega), List.take_append_of_le_length (by simp; omega)]

theorem drop_right {a b : List Value} {n m : Nat} : ((a ++ b).drop (a.length + n)).take m = (b.drop n).take m := by
  rw [List.drop_append, List.drop_of_length_le (by omega)]; simp

theorem Im_sub {w : World} {st : Blks} : ∀ {S : Sh} {x : S.den} {cs : List Value} {p : List Bool} {s : Sh} {y : s.den},
    Im w st S x cs → getT S x p = some ⟨s, y⟩ → Im w st s y ((cs.drop (S.off p)).take s.size)
  | S, x, cs, [], s, y, h, g => by
    rw [getT_nil] at g; cases g
    rw [off_nil, List.drop_zero, List.take_of_length_le (by rw [Im_len h]; exact Nat.le_refl _)]; exact h
  | .pair a b, x, cs, false :: p, s, y, ⟨c1, c2, e, h1, h2⟩, g => by
    have hs := sub_size (getT_sub (S := a) g)
    have := Im_sub h1 g
    rw [e, Sh.off, drop_left (by rw [Im_len h1]; exact hs)]; exact this
  | .pair a b, x, cs, true :: p, s, y, ⟨c1, c2, e, h1, h2⟩, g => by
    have := Im_sub h2 g
    rw [e, Sh.off, ← Im_len h1, drop_right]; exact this
  | .int _, _, _, _ :: _, _, _, _, h => by simp [getT] at h
  | .bool, _, _, _ :: _, _, _, _, h => by simp [getT] at h
  | .str, _, _, _ :: _, _, _, _, h => by simp [getT] at h
  | .sl _ _, _, _, _ :: _, _, _, _, h => by simp [getT] at h
  | .unit, _, _, _ :: _, _, _, _, h => by simp [getT] at h

theorem cst_some {a b : Sh} {x : a.den} {y : b.den} (h : cst a b x = some y) : ∃ e : a = b, e ▸ x = y := by
  unfold cst at h
  split at h
  · rename_i e; exact ⟨e, Option.some.inj h⟩
  · cases h
theorem cst_self {a : Sh} (x : a.den) : cst a a x = some x := by simp [cst]
theorem cstL_some {a b : Sh} {x : List a.den} {y : List b.den} (h : cstL a b x = some y) : ∃ e : a = b, e ▸ x = y := by
  unfold cstL at h
  split at h
  · rename_i e; exact ⟨e, Option.some.inj h⟩
  · cases h

theorem setT_nil (S : Sh) (x : S.den) (s : Sh) (y : s.den) : setT S x [] s y = cst s S y := by cases S <;> rfl

/-- A part of what is owned: what it owns, and the whole behind a change of it. -/
theorem Ow_sub {w : World} : ∀ {S : Sh} {x : S.den} {cs : List Value} {F : Blks} {p : List Bool} {s : Sh} {y : s.den},
    Ow w S x cs F → getT S x p = some ⟨s, y⟩ → ∃ F1 : Blks, (∀ b, F1 b → F b) ∧ Ow w s y ((cs.drop (S.off p)).take s.size) F1 ∧
      ∀ (w' : World) (cs' : List Value) (G : Blks) (y' : s.den) (z : S.den), setT S x p s y' = some z → cs'.length = cs.length →
        (∀ k, (k < S.off p ∨ S.off p + s.size ≤ k) → cs'[k]? = cs[k]?) →
        (∀ b, F b → ¬ F1 b → w'.heap[b]? = w.heap[b]?) → (∀ b, G b → F b → F1 b) → Ow w' s y' ((cs'.drop (S.off p)).take s.size) G →
        Ow w' S z cs' (fun b => (F b ∧ ¬ F1 b) ∨ G b)
  | S, x, cs, F, [], s, y, h, g => by
    rw [getT_nil] at g; cases g
    have hl := Ow_len h
    refine ⟨F, fun b hb => hb, ?_, ?_⟩
    · rw [off_nil, List.drop_zero, List.take_of_length_le (by omega)]; exact h
    · intro w' cs' G y' z hz hl' hc hw hG hy
      rw [setT_nil, cst_self] at hz; cases hz
      rw [off_nil, List.drop_zero, List.take_of_length_le (by omega)] at hy
      exact Ow_up (fun b hb => .inr hb) hy
  | .pair a b, x, cs, F, false :: p, s, y, ⟨c1, c2, F1, F2, e, d, h1, h2, h3, h4⟩, g => by
    have hs := sub_size (getT_sub (S := a) g)
    have l1 := Ow_len h3
    obtain ⟨G1, hG1, hr, hset⟩ := Ow_sub h3 g
    refine ⟨G1, fun b hb => h1 b (hG1 b hb), ?_, ?_⟩
    · rw [e, Sh.off, drop_left (by rw [l1]; exact hs)]; exact hr
    · intro w' cs' G y' z hz hl' hc hw hG hy
      simp only [setT] at hz
      cases hz1 : setT a x.1 p s y' with
      | none => rw [hz1] at hz; cases hz
      | some z1 =>
        rw [hz1] at hz; cases hz
        subst e
        simp only [Sh.off] at hc hy
        have ec : cs' = cs'.take c1.length ++ c2 := by
          conv => lhs; rw [← List.take_append_drop c1.length cs']
          congr 1
          apply List.ext_getElem?
          intro k
          rw [List.getElem?_drop, hc (c1.length + k) (.inr (by omega)), List.getElem?_append_right (by omega)]
          congr 1; omega
        have lt : (cs'.take c1.length).length = c1.length := by rw [List.length_take, hl', List.length_append]; omega
        refine ⟨cs'.take c1.length, c2, fun b => (F1 b ∧ ¬ G1 b) ∨ G b, F2, ec, ?_, ?_, ?_, ?_, ?_⟩
        · rintro b (⟨hb, _⟩ | hb) hb2
          · exact d b hb hb2
          · exact d b (hG1 b (hG b hb (h2 b hb2))) hb2
        · rintro b (⟨hb, hn⟩ | hb)
          · exact .inl ⟨h1 b hb, hn⟩
          · exact .inr hb
        · exact fun b hb => .inl ⟨h2 b hb, fun hg => d b (hG1 b hg) hb⟩
        · refine hset w' _ G y' z1 hz1 lt ?_ (fun b hb hn => hw b (h1 b hb) hn) (fun b hg hb => hG b hg (h1 b hb)) ?_
          · intro k hk
            by_cases hk1 : k < c1.length
            · rw [List.getElem?_take, if_pos hk1, hc k (by omega), List.getElem?_append_left hk1]
            · rw [List.getElem?_eq_none (by omega), List.getElem?_eq_none (by omega)]
          · rw [ec, drop_left (by omega)] at hy; exact hy
        · exact Ow_world (fun b hb => hw b (h2 b hb) (fun hg => d b (hG1 b hg) hb)) h4
  | .pair a b, x, cs, F, true :: p, s, y, ⟨c1, c2, F1, F2, e, d, h1, h2, h3, h4⟩, g => by
    have hs := sub_size (getT_sub (S := b) g)
    have l1 := Ow_len h3
    have l2 := Ow_len h4
    obtain ⟨G1, hG1, hr, hset⟩ := Ow_sub h4 g
    refine ⟨G1, fun b hb => h2 b (hG1 b hb), ?_, ?_⟩
    · rw [e, Sh.off, ← l1, drop_right]; exact hr
    · intro w' cs' G y' z hz hl' hc hw hG hy
      simp only [setT] at hz
      cases hz1 : setT b x.2 p s y' with
      | none => rw [hz1] at hz; cases hz
      | some z1 =>
        rw [hz1] at hz; cases hz
        subst e
        simp only [Sh.off, ← l1] at hc hy
        have ec : cs' = c1 ++ cs'.drop c1.length := by
          conv => lhs; rw [← List.take_append_drop c1.length cs']
          congr 1
          apply List.ext_getElem?
          intro k
          rw [List.getElem?_take]
          split
          · rename_i hk; rw [hc k (.inl (by omega)), List.getElem?_append_left hk]
          · rw [List.getElem?_eq_none (by omega)]
        have lt : (cs'.drop c1.length).length = c2.length := by rw [List.length_drop, hl', List.length_append]; omega
        refine ⟨c1, cs'.drop c1.length, F1, fun b => (F2 b ∧ ¬ G1 b) ∨ G b, ec, ?_, ?_, ?_, ?_, ?_⟩
        · rintro b hb1 (⟨hb, _⟩ | hb)
          · exact d b hb1 hb
          · exact d b hb1 (hG1 b (hG b hb (h1 b hb1)))
        · exact fun b hb => .inl ⟨h1 b hb, fun hg => d b hb (hG1 b hg)⟩
        · rintro b (⟨hb, hn⟩ | hb)
          · exact .inl ⟨h2 b hb, hn⟩
          · exact .inr hb
        · exact Ow_world (fun b hb => hw b (h1 b hb) (fun hg => d b hb (hG1 b hg))) h3
        · refine hset w' _ G y' z1 hz1 lt ?_ (fun b hb hn => hw b (h2 b hb) hn) (fun b hg hb => hG b hg (h2 b hb)) ?_
          · intro k hk
            rw [List.getElem?_drop, hc (c1.length + k) (by omega), List.getElem?_append_right (by omega)]
            congr 1; omega
          · rw [ec, drop_right] at hy; exact hy
  | .int _, _, _, _, _ :: _, _, _, _, h => by simp [getT] at h
  | .bool, _, _, _, _ :: _, _, _, _, h => by simp [getT] at h
  | .str, _, _, _, _ :: _, _, _, _, h => by simp [getT] at h
  | .sl _ _, _, _, _, _ :: _, _, _, _, h => by simp [getT] at h
  | .unit, _, _, _, _ :: _, _, _, _, h => by simp [getT] at h

/-- What is owned can be read, where its memory is given up. -/
theorem Ow_Im {w : World} {st : Blks} : ∀ {S : Sh} {x : S.den} {cs : List Value} {F : Blks}, (∀ b, F b → st b) → Ow w S x cs F → Im w st S x cs
  | .int _, _, _, _, _, h => h
  | .bool, _, _, _, _, h => h
  | .str, _, _, _, _, h => h
  | .unit, _, _, _, _, h => h
  | .pair _ _, _, _, _, hF, ⟨c1, c2, F1, F2, e, d, h1, h2, h3, h4⟩ =>
    ⟨c1, c2, e, Ow_Im (fun b hb => hF b (h1 b hb)) h3, Ow_Im (fun b hb => hF b (h2 b hb)) h4⟩
  | .sl T e, xs, _, F, hF, h => by
    rcases h with ⟨rfl, A, rfl⟩ | ⟨b, cap, arr, F', rfl, h1, h2, h3, h4, h5, h6, h7, h8⟩
    · exact ⟨A, 0, rfl, Nat.le_refl _, fun h => absurd rfl h⟩
    · refine ⟨_, cap, rfl, h5, fun _ => ⟨b, 0, rfl, hF b h1, fun i x hx => ?_⟩⟩
      obtain ⟨F1, hF1, hr⟩ := OwL_get h8 hx
      refine ⟨_, Ow_Im (fun c hc => hF c (h3 c (hF1 c hc))) hr, fun j v hv => ?_⟩
      rw [List.getElem?_take] at hv
      split at hv
      · rw [List.getElem?_drop] at hv
        simp only [World.cell?, h4, Option.isSome_none, Bool.false_eq_true, if_false]
        rw [← Array.getElem?_toList, Nat.zero_add]; exact hv
      · cases hv

/-- Flat values own nothing. -/
theorem Im_Ow {w w' : World} {st : Blks} : ∀ {S : Sh} {x : S.den} {cs : List Value} {F : Blks}, S.flat = true → Im w st S x cs → Ow w' S x cs F
  | .int _, _, _, _, _, h => h
  | .bool, _, _, _, _, h => h
  | .str, _, _, _, _, h => h
  | .unit, _, _, _, _, h => h
  | .pair a b, _, _, F, hf, ⟨c1, c2, e, h1, h2⟩ => by
    simp only [Sh.flat, Bool.and_eq_true] at hf
    exact ⟨c1, c2, fun _ => False, fun _ => False, e, fun _ h _ => h, fun _ h => h.elim, fun _ h => h.elim, Im_Ow hf.1 h1, Im_Ow hf.2 h2⟩
  | .sl _ _, _, _, _, hf, _ => by simp [Sh.flat] at hf

theorem Ow_flat {w w' : World} : ∀ {S : Sh} {x : S.den} {cs : List Value} {F F' : Blks}, S.flat = true → Ow w S x cs F → Ow w' S x cs F'
  | .int _, _, _, _, _, _, h => h
  | .bool, _, _, _, _, _, h => h
  | .str, _, _, _, _, _, h => h
  | .unit, _, _, _, _, _, h => h
  | .pair a b, _, _, _, _, hf, ⟨c1, c2, F1, F2, e, d, h1, h2, h3, h4⟩ => by
    simp only [Sh.flat, Bool.and_eq_true] at hf
    exact ⟨c1, c2, fun _ => False, fun _ => False, e, fun _ h _ => h, fun _ h => h.elim, fun _ h => h.elim, Ow_flat hf.1 h3, Ow_flat hf.2 h4⟩
  | .sl _ _, _, _, _, _, hf, _ => by simp [Sh.flat] at hf

end Go.Vm
