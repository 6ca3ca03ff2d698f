/- Contracts: what a callee is handed, and what it hands back. -/
import Derived.Test.YtkjimaolpijoiaaVm13
import Derived.Calls
set_option linter.unusedVariables false
set_option linter.unusedSimpArgs false
namespace Go.Vm

def CapsR (w : World) (st : Blks) : (ss : List Sh) → (chain ss).den → List Value → Prop
  | [], _, vs => vs = []
  | s :: r, x, vs => ∃ b arr T fz vs', vs = .pointer (some ⟨b, 0, none⟩) :: vs' ∧ st b ∧ w.heap[b]? = some (.cells arr T fz) ∧ Im w st s x.1 arr.toList ∧ CapsR w st r x.2 vs'

/-- One argument; what it hands over or lends lies in F. -/
def ArgR (w : World) (st : Blks) : (m : Mode) → m.inSh.den → Value → Blks → Prop
  | .imm S, x, v, _ => ∃ cs, VR S v cs ∧ Im w st S x cs
  | .own S, x, v, F => ∃ cs, VR S v cs ∧ Ow w S x cs F
  | .lend T e, x, v, F => Ow w (.sl T e) x [v] F
  | .pO S, x, v, F => ∃ b arr T F', v = .pointer (some ⟨b, 0, none⟩) ∧ F b ∧ w.heap[b]? = some (.cells arr T (0, 0)) ∧ Ow w S x arr.toList F' ∧ ¬ F' b ∧ ∀ c, F' c → F c
  | .pI S, x, v, F => ∃ b arr T, v = .pointer (some ⟨b, 0, none⟩) ∧ F b ∧ w.heap[b]? = some (.cells arr T (0, 0)) ∧ Im w st S x arr.toList
  | .pR S, x, v, _ => ∃ b arr T fz, v = .pointer (some ⟨b, 0, none⟩) ∧ st b ∧ w.heap[b]? = some (.cells arr T fz) ∧ Im w st S x arr.toList
  | .clo f ss, x, v, _ => ∃ vs, v = .func (.func f) #[] vs.toArray ∧ CapsR w st ss x vs
  | .loan S, x, v, F => ∃ cs, VR S v cs ∧ Ow w S x cs F

def ArgsR (w : World) (st : Blks) : (ms : List Mode) → (insSh ms).den → List Value → Blks → Prop
  | [], _, vs, _ => vs = []
  | m :: ms, x, vs, F => ∃ v r F1 F2, vs = v :: r ∧ (∀ b, F1 b → F2 b → False) ∧ (∀ b, F1 b → F b) ∧ (∀ b, F2 b → F b) ∧ ArgR w st m x.1 v F1 ∧ ArgsR w st ms x.2 r F2

def BackR (w : World) (st : Blks) : (ms : List Mode) → (backSh ms).den → List Value → Blks → Prop
  | [], _, _, _ => True
  | m :: ms, y, vs, F => ∃ v r F1 F2, vs = v :: r ∧ (∀ b, F1 b → F2 b → False) ∧ (∀ b, F1 b → F b) ∧ (∀ b, F2 b → F b) ∧
      (∀ z, (splitB m ms y).1 = some z → ArgR w st m z v F1) ∧ BackR w st ms (splitB m ms y).2 r F2

def ResR (w : World) (st : Blks) : (rs : List (RK × Sh)) → (ms : List Mode) → (outSh rs ms).den → List Value → List Value → Blks → Prop
  | [], ms, y, us, vs, F => us = [] ∧ BackR w st ms y vs F
  | (.new, S) :: rs, ms, y, us, vs, F => ∃ u r F1 F2, us = u :: r ∧ (∀ b, F1 b → F2 b → False) ∧ (∀ b, F1 b → F b) ∧ (∀ b, F2 b → F b) ∧ ArgR w st (.pI S) y.1 u F1 ∧ ResR w st rs ms y.2 r vs F2
  | (.own, S) :: rs, ms, y, us, vs, F => ∃ u r F1 F2 cs, us = u :: r ∧ (∀ b, F1 b → F2 b → False) ∧ (∀ b, F1 b → F b) ∧ (∀ b, F2 b → F b) ∧ VR S u cs ∧ Ow w S y.1 cs F1 ∧ ResR w st rs ms y.2 r vs F2
  | (.imm, S) :: rs, ms, y, us, vs, F => ∃ u r cs, us = u :: r ∧ VR S u cs ∧ Im w st S y.1 cs ∧ ResR w st rs ms y.2 r vs F

def retV : List Value → Value
  | [u] => u
  | us => .tuple us.toArray

structure Post (w w' : World) (st L : Blks) (c : Con) (x : (insSh c.ps).den) (vals us : List Value) (st' G : Blks) : Prop where
  os : w'.os = w.os
  tape : w'.tape = w.tape
  output : w'.output = w.output
  size : w.heap.size ≤ w'.heap.size
  keep : ∀ b, b < w.heap.size → ¬ L b → w'.heap[b]? = w.heap[b]?
  st1 : ∀ b, st b → st' b
  st2 : ∀ b, st' b → st b ∨ L b ∨ w.heap.size ≤ b
  stlt : ∀ b, st' b → b < w'.heap.size
  g1 : ∀ b, G b → L b ∨ w.heap.size ≤ b
  g2 : ∀ b, G b → b < w'.heap.size ∧ ¬ st' b
  res : ResR w' st' c.rs c.ps (c.fn x) us vals G

/-- A function keeps a contract. -/
def Sound (P : Program) (f : FuncId) (c : Con) : Prop :=
  (∀ (args : Array Value) (w : World), (callFunc f args).run P w = .ok (.enter f args) w) ∧
  ∀ (w : World) (st : Blks) (vals : List Value) (x : (insSh c.ps).den) (L : Blks), (∀ b, st b → b < w.heap.size ∧ ¬ L b) → (∀ b, L b → b < w.heap.size) → c.pre x = true → ArgsR w st c.ps x vals L →
    Calls P f vals.toArray w fun e w' => ∃ us st' G, e = .returned (retV us) ∧ Post w w' st L c x vals us st' G

/-! ### Memory laid out as objects -/
structure Lay (w : World) (st : Blks) (F : Blks) (l : List (Nat × Ob)) (ρ1 : Nat → Value) (φ1 : Nat → Blks) : Prop where
  sup : ∀ id b, φ1 id b → F b ∧ id ∈ l.map (·.1)
  dj : ∀ i j b, φ1 i b → φ1 j b → i = j
  nn : ∀ q ∈ l, q.2 ≠ .none
  ids : ∀ q ∈ l, ∀ id ∈ q.2.ids, id ∈ l.map (·.1)
  ob : ∀ (ρ : Nat → Value) (O : Nat → Ob), (∀ id ∈ l.map (·.1), ρ id = ρ1 id) → (∀ q ∈ l, O q.1 = q.2) → ∀ q ∈ l, ObR w st ρ φ1 O q.1 q.2

variable {w : World} {st : Blks} {hp : Nat → Ob}

theorem Lay.nil (F : Blks) (ρ1 : Nat → Value) : Lay w st F [] ρ1 (fun _ _ => False) :=
  ⟨fun _ _ h => h.elim, fun _ _ _ h => h.elim, by simp, by simp, by simp⟩

theorem Lay.up {F F' : Blks} {l : List (Nat × Ob)} {ρ1 : Nat → Value} {φ1 : Nat → Blks} (h : Lay w st F l ρ1 φ1) (hF : ∀ b, F b → F' b) : Lay w st F' l ρ1 φ1 :=
  ⟨fun id b hb => ⟨hF b (h.sup id b hb).1, (h.sup id b hb).2⟩, h.dj, h.nn, h.ids, h.ob⟩

theorem Lay.set {F : Blks} {l l' : List (Nat × Ob)} {ρ1 : Nat → Value} {φ1 : Nat → Blks} (h : Lay w st F l ρ1 φ1) (hl : ∀ q, q ∈ l' ↔ q ∈ l) : Lay w st F l' ρ1 φ1 := by
  have hk : ∀ id, id ∈ l'.map (·.1) ↔ id ∈ l.map (·.1) := fun id => by
    simp only [List.mem_map, hl]
  exact ⟨fun id b hb => ⟨(h.sup id b hb).1, (hk id).2 (h.sup id b hb).2⟩, h.dj, fun q hq => h.nn q ((hl q).1 hq), fun q hq id hid => (hk id).2 (h.ids q ((hl q).1 hq) id hid),
    fun ρ O h1 h2 q hq => h.ob ρ O (fun id hid => h1 id ((hk id).2 hid)) (fun q hq => h2 q ((hl q).2 hq)) q ((hl q).1 hq)⟩

theorem ObR_phi {ρ : Nat → Value} {φ φ' : Nat → Blks} {O : Nat → Ob} {id : Nat} {o : Ob} (h : ObR w st ρ φ O id o) (e : ∀ b, φ' id b ↔ φ id b) : ObR w st ρ φ' O id o := by
  have e : φ' id = φ id := funext fun b => propext (e b)
  cases o with
  | none => intro b; rw [e]; exact h b
  | box S v => obtain ⟨b, arr, T, h1, h2, h3⟩ := h; exact ⟨b, arr, T, h1, by rw [e]; exact h2, h3⟩
  | cbox S x => obtain ⟨b, arr, T, fz, h1, h2, h3, h4, h5⟩ := h; exact ⟨b, arr, T, fz, h1, h2, h3, h4, by rw [e]; exact h5⟩
  | arr T el xs => show Ow _ _ _ _ _; rw [e]; exact h

/-- Two layouts apart make one. -/
theorem Lay.both {F F1 F2 : Blks} {l1 l2 : List (Nat × Ob)} {ρ1 ρ2 : Nat → Value} {φ1 φ2 : Nat → Blks} (h1 : Lay w st F1 l1 ρ1 φ1) (h2 : Lay w st F2 l2 ρ2 φ2) (hdis : ∀ b, F1 b → F2 b → False)
    (hF1 : ∀ b, F1 b → F b) (hF2 : ∀ b, F2 b → F b) (hk : ∀ id, id ∈ l1.map (·.1) → id ∉ l2.map (·.1)) :
    Lay w st F (l1 ++ l2) (fun id => bif mem id (l1.map (·.1)) then ρ1 id else ρ2 id) (fun id b => φ1 id b ∨ φ2 id b) := by
  have hr1 : ∀ id, id ∈ l1.map (·.1) → (bif mem id (l1.map (·.1)) then ρ1 id else ρ2 id) = ρ1 id := fun id hid => by rw [mem_iff.2 hid]; rfl
  have hr2 : ∀ id, id ∈ l2.map (·.1) → (bif mem id (l1.map (·.1)) then ρ1 id else ρ2 id) = ρ2 id := fun id hid => by
    rw [mem_false.2 (fun h => hk id h hid)]; rfl
  refine ⟨fun id b hb => ?_, fun i j b hi hj => ?_, fun q hq => ?_, fun q hq id hid => ?_, fun ρ O e1 e2 q hq => ?_⟩
  · rw [List.map_append, List.mem_append]
    rcases hb with hb | hb
    · exact ⟨hF1 b (h1.sup id b hb).1, .inl (h1.sup id b hb).2⟩
    · exact ⟨hF2 b (h2.sup id b hb).1, .inr (h2.sup id b hb).2⟩
  · rcases hi with hi | hi <;> rcases hj with hj | hj
    · exact h1.dj i j b hi hj
    · exact (hdis b (h1.sup i b hi).1 (h2.sup j b hj).1).elim
    · exact (hdis b (h1.sup j b hj).1 (h2.sup i b hi).1).elim
    · exact h2.dj i j b hi hj
  · rcases List.mem_append.1 hq with hq | hq
    · exact h1.nn q hq
    · exact h2.nn q hq
  · rw [List.map_append, List.mem_append]
    rcases List.mem_append.1 hq with hq | hq
    · exact .inl (h1.ids q hq id hid)
    · exact .inr (h2.ids q hq id hid)
  · have hm : ∀ q ∈ l1, q.1 ∈ l1.map (·.1) := fun q hq => List.mem_map.2 ⟨q, hq, rfl⟩
    have hm2 : ∀ q ∈ l2, q.1 ∈ l2.map (·.1) := fun q hq => List.mem_map.2 ⟨q, hq, rfl⟩
    rcases List.mem_append.1 hq with hq | hq
    · refine ObR_phi (h1.ob ρ O (fun id hid => ?_) (fun q hq => e2 q (by simp [hq])) q hq) (fun b => ⟨fun hb => ?_, .inl⟩)
      · rw [e1 id (by rw [List.map_append]; simp only [List.mem_append]; exact .inl hid), hr1 id hid]
      · rcases hb with hb | hb
        · exact hb
        · exact (hk q.1 (hm q hq) (h2.sup _ b hb).2).elim
    · refine ObR_phi (h2.ob ρ O (fun id hid => ?_) (fun q hq => e2 q (by simp [hq])) q hq) (fun b => ⟨fun hb => ?_, .inr⟩)
      · rw [e1 id (by rw [List.map_append]; simp only [List.mem_append]; exact .inr hid), hr2 id hid]
      · rcases hb with hb | hb
        · exact (hk q.1 (h1.sup _ b hb).2 (hm2 q hq)).elim
        · exact hb

/-- The cells of a value whose slices are objects, from k on. -/
def LoanC (ρ : Nat → Value) : (S : Sh) → S.den → List Value → Nat → Prop
  | .int k, x, cs, _ => cs = [.int k x]
  | .bool, x, cs, _ => cs = [.bool x]
  | .str, x, cs, _ => cs = [.string x]
  | .unit, _, cs, _ => cs = []
  | .pair a b, x, cs, k => ∃ c1 c2, cs = c1 ++ c2 ∧ LoanC ρ a x.1 c1 k ∧ LoanC ρ b x.2 c2 (k + 10000 * a.nsl)
  | .sl _ _, _, cs, k => cs = [ρ k]

/-- A value that owns its memory, as objects. -/
theorem intro_ok2 : ∀ {S : Sh} {x : S.den} {cs : List Value} {F : Blks} {k k' : Nat} {v : AV} {l : List (Nat × Ob)}, Ow w S x cs F → intro S x k = (v, l, k') → (l.map (·.1)).Nodup →
    ∃ ρ1 φ1, Lay w st F l ρ1 φ1 ∧ (∀ id ∈ v.ids, id ∈ l.map (·.1)) ∧ (∀ b, ∀ id, φ1 id b → F b) ∧
      (∀ (st' : Blks) (ρ : Nat → Value) (O : Nat → Ob), (∀ id ∈ l.map (·.1), ρ id = ρ1 id) → (∀ q ∈ l, O q.1 = q.2) → Fit O S v ∧ RC w st' ρ O v cs) ∧
      k' = k + 10000 * S.nsl ∧ ∀ ρ : Nat → Value, (∀ id ∈ l.map (·.1), ρ id = ρ1 id) → LoanC ρ S x cs k
  | .int i, x, cs, F, k, k', v, l, h, e, hn => by
    cases e; exact ⟨fun _ => undef, _, Lay.nil F _, by simp [AV.ids], fun _ _ h => h.elim, fun _ _ _ _ _ => ⟨rfl, h⟩, rfl, fun _ _ => h⟩
  | .bool, x, cs, F, k, k', v, l, h, e, hn => by
    cases e; exact ⟨fun _ => undef, _, Lay.nil F _, by simp [AV.ids], fun _ _ h => h.elim, fun _ _ _ _ _ => ⟨rfl, h⟩, rfl, fun _ _ => h⟩
  | .str, x, cs, F, k, k', v, l, h, e, hn => by
    cases e; exact ⟨fun _ => undef, _, Lay.nil F _, by simp [AV.ids], fun _ _ h => h.elim, fun _ _ _ _ _ => ⟨rfl, h⟩, rfl, fun _ _ => h⟩
  | .unit, x, cs, F, k, k', v, l, h, e, hn => by
    cases e; exact ⟨fun _ => undef, _, Lay.nil F _, by simp [AV.ids], fun _ _ h => h.elim, fun _ _ _ _ _ => ⟨rfl, h⟩, rfl, fun _ _ => h⟩
  | .sl T el, xs, cs, F, k, k', v, l, h, e, hn => by
    cases e
    obtain ⟨vv, hcs, hone⟩ : ∃ vv, cs = [vv] ∧ vv.oneCell' = true := by
      have := Ow_ones h
      rcases h with ⟨_, A, rfl⟩ | ⟨b, cap, arr, F', rfl, _⟩
      · exact ⟨_, rfl, rfl⟩
      · exact ⟨_, rfl, rfl⟩
    subst hcs
    refine ⟨fun _ => vv, fun id b => id = k ∧ F b, ⟨?_, ?_, by simp, by simp [Ob.ids], ?_⟩, by simp [AV.ids], fun b id hb => hb.2, fun st' ρ O h1 h2 => ?_, rfl, fun ρ h1 => ?_⟩
    · rintro id b ⟨rfl, hb⟩; exact ⟨hb, by simp⟩
    · rintro i j b ⟨rfl, _⟩ ⟨rfl, _⟩; rfl
    · intro ρ O h1 h2 q hq
      simp at hq; subst hq
      show Ow w (.sl T el) xs [ρ k] _
      rw [h1 k (by simp)]
      exact Ow_up (fun b hb => ⟨rfl, hb⟩) h
    · have hO := h2 (k, .arr T el xs) (by simp)
      have hr := h1 k (by simp)
      exact ⟨⟨xs, rfl, rfl, hO⟩, rfl, ⟨T, el, xs, hO⟩, by rw [hr], by rw [hr]; exact hone⟩
    · show [vv] = [ρ k]
      rw [h1 k (by simp)]
  | .pair a b, x, cs, F, k, k', v, l, ⟨c1, c2, F1, F2, hc, hdis, hF1, hF2, hx1, hx2⟩, e, hn => by
    simp only [intro] at e
    cases e1 : intro a x.1 k with
    | mk u p =>
    obtain ⟨l1, k1⟩ := p
    cases e2 : intro b x.2 k1 with
    | mk v2 p =>
    obtain ⟨l2, k2⟩ := p
    rw [e1] at e; simp only at e
    rw [e2] at e; simp only [Prod.mk.injEq] at e
    obtain ⟨rfl, rfl, rfl⟩ := e
    rw [List.map_append] at hn
    have hn' := List.nodup_append.1 hn
    obtain ⟨ρ1, φ1, g1, g2, g3, g4, g5, g6⟩ := intro_ok2 hx1 e1 hn'.1
    obtain ⟨ρ2, φ2, q1, q2, q3, q4, q5, q6⟩ := intro_ok2 hx2 e2 hn'.2.1
    have hk : ∀ id, id ∈ l1.map (·.1) → id ∉ l2.map (·.1) := fun id h1 h2 => hn'.2.2 id h1 id h2 rfl
    refine ⟨_, _, Lay.both (F := F) g1 q1 hdis hF1 hF2 hk, fun id hid => ?_, fun b id hb => hb.elim (fun h => hF1 b (g3 b id h)) (fun h => hF2 b (q3 b id h)), fun st' ρ O h1 h2 => ?_, by rw [q5, g5]; simp only [Sh.nsl]; omega, fun ρ h1 => ⟨c1, c2, hc, g6 ρ (fun id hid => ?_), g5 ▸ q6 ρ (fun id hid => ?_)⟩⟩
    · rw [List.map_append, List.mem_append]
      exact (mkPair_ids hid).elim (fun h => .inl (g2 id h)) (fun h => .inr (q2 id h))
    · have w1 := g4 st' ρ O (fun id hid => by
        rw [h1 id (by rw [List.map_append, List.mem_append]; exact .inl hid), mem_iff.2 hid]; rfl) (fun q hq => h2 q (by simp [hq]))
      have w2 := q4 st' ρ O (fun id hid => by
        rw [h1 id (by rw [List.map_append, List.mem_append]; exact .inr hid), mem_false.2 (fun h => hk id h hid)]; rfl) (fun q hq => h2 q (by simp [hq]))
      exact ⟨mkPair_Fit w1.1 w2.1, by rw [hc]; exact mkPair_RC w1.2 w2.2⟩
    · rw [h1 id (by rw [List.map_append, List.mem_append]; exact .inl hid), mem_iff.2 hid]; rfl
    · rw [h1 id (by rw [List.map_append, List.mem_append]; exact .inr hid), mem_false.2 (fun h => hk id h hid)]; rfl

theorem intro_ok {S : Sh} {x : S.den} {cs : List Value} {F : Blks} {k k' : Nat} {v : AV} {l : List (Nat × Ob)} (h : Ow w S x cs F) (e : intro S x k = (v, l, k')) (hn : (l.map (·.1)).Nodup) :
    ∃ ρ1 φ1, Lay w st F l ρ1 φ1 ∧ (∀ id ∈ v.ids, id ∈ l.map (·.1)) ∧ (∀ b, ∀ id, φ1 id b → F b) ∧
      ∀ (st' : Blks) (ρ : Nat → Value) (O : Nat → Ob), (∀ id ∈ l.map (·.1), ρ id = ρ1 id) → (∀ q ∈ l, O q.1 = q.2) → Fit O S v ∧ RC w st' ρ O v cs := by
  obtain ⟨ρ1, φ1, g1, g2, g3, g4, _⟩ := intro_ok2 (st := st) h e hn
  exact ⟨ρ1, φ1, g1, g2, g3, g4⟩

end Go.Vm
