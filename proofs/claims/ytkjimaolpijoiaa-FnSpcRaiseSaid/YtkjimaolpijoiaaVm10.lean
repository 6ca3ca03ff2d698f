/- Single operations: slice literals and stores. -/
import Derived.Test.YtkjimaolpijoiaaVm9
set_option linter.unusedVariables false
set_option linter.unusedSimpArgs false
namespace Go.Vm

section
variable {P : Program} {X : Ctx} {w : World} {st : Blks} {ρ : Nat → Value} {φ : Nat → Blks} {n : Nat} {a : Act} {s : St} {o : Oper} {hp : Nat → Ob}

theorem litL_part {α : Type} {f : AV → Option (α × List Nat)} {z : α} {parts : List (Nat × AV)} : ∀ {n i : Nat} {xs : List α} {l : List Nat}, litL f z parts n i = some (xs, l) →
    xs.length = n ∧ ∀ j, i ≤ j → j < i + n → ∃ x m, litPart f z parts j = some (x, m) ∧ xs[j - i]? = some x
  | 0, i, xs, l, h => by cases h; exact ⟨rfl, fun j h1 h2 => by omega⟩
  | n + 1, i, xs, l, h => by
    simp only [litL] at h
    cases hh : litPart f z parts i with
    | none => rw [hh] at h; cases h
    | some p =>
      obtain ⟨x, l1⟩ := p
      rw [hh] at h; simp only at h
      cases ht : litL f z parts n (i + 1) with
      | none => rw [ht] at h; cases h
      | some q =>
        obtain ⟨ys, l2⟩ := q
        rw [ht] at h; simp only [Option.some.injEq, Prod.mk.injEq] at h
        obtain ⟨rfl, rfl⟩ := h
        obtain ⟨ih1, ih2⟩ := litL_part ht
        refine ⟨by simp [ih1], fun j h1 h2 => ?_⟩
        by_cases hj : j = i
        · subst hj; exact ⟨x, l1, hh, by simp⟩
        · obtain ⟨y, m, g1, g2⟩ := ih2 j (by omega) (by omega)
          refine ⟨y, m, g1, ?_⟩
          rw [show j - i = (j - (i + 1)) + 1 by omega]; simpa using g2

theorem find_key {β : Type} : ∀ {ps : List (Nat × β)} {q : Nat × β}, (ps.map (·.1)).Nodup → q ∈ ps → ps.find? (fun p => Nat.beq p.1 q.1) = some q
  | p :: ps, q, hn, hq => by
    simp only [List.map_cons, List.nodup_cons] at hn
    rw [List.find?_cons]
    by_cases hpq : p.1 = q.1
    · have e : Nat.beq p.1 q.1 = true := by rw [hpq]; exact Nat.beq_eq ▸ rfl
      rw [e]
      rcases List.mem_cons.1 hq with rfl | hq
      · rfl
      · exact absurd (List.mem_map.2 ⟨q, hq, hpq.symm⟩) hn.1
    · have e : Nat.beq p.1 q.1 = false := by rw [Bool.eq_false_iff]; intro e; exact hpq (Nat.eq_of_beq_eq_true e)
      rw [e]
      rcases List.mem_cons.1 hq with rfl | hq
      · exact absurd rfl hpq
      · exact find_key hn.2 hq

theorem absorb_len {v : AV} : ∀ {S : Sh} {x : S.den} {D : List Nat} {cs : List Value} {O : Nat → Ob}, absorb hp S v = some (x, D) → RC w st ρ O v cs → cs.length = S.size := by
  induction v with
  | val t y =>
    intro S x D cs O h hr
    obtain ⟨e, _⟩ := absorb_val h
    subst e; exact Im_len hr
  | pair u v ihu ihv =>
    intro S x D cs O h hr
    cases S with
    | pair p q =>
      obtain ⟨y, z, l, m, h1, h2, _⟩ := absorb_pair h
      obtain ⟨c1, c2, rfl, g1, g2⟩ := hr
      rw [List.length_append, ihu h1 g1, ihv h2 g2]; rfl
    | _ => simp [absorb] at h
  | nilv T e =>
    intro S x D cs O h hr
    cases S with
    | sl T' e' => obtain ⟨A, rfl⟩ := hr; rfl
    | _ => simp [absorb] at h
  | sref id ix p =>
    intro S x D cs O h hr
    cases S with
    | sl T' e' =>
      obtain ⟨rfl, rfl, _, _⟩ := absorb_sref h
      obtain ⟨_, _, rfl, _⟩ := hr; rfl
    | _ => simp [absorb] at h
  | _ => intro S x D cs O h hr; cases S <;> simp [absorb] at h

theorem zero_Im : ∀ (S : Sh), Im w st S S.zero S.zc
  | .int _ => rfl
  | .bool => rfl
  | .str => rfl
  | .sl _ _ => ⟨none, 0, rfl, Nat.le_refl _, fun h => absurd rfl h⟩
  | .pair a b => ⟨_, _, rfl, zero_Im a, zero_Im b⟩
  | .unit => rfl

theorem run_lit (hA : TyAll P X) {T E : TypeId} {e : Sh} {nf : Nat} (hT : X.ty T = some (.sl E e, nf)) {α : Type} {f : AV → Option (α × List Nat)} {z : α} {ps : List (Nat × Operand)} {n : Nat} {xs : List α} {l : List Nat} (r : Operand → AV) (g : Operand → Value)
    (hk : ∀ q ∈ ps, q.1 < n) (hnd : (ps.map (·.1)).Nodup) (hlim : n * e.size ≤ 16777216) (hl : litL f z (ps.map fun q => (q.1, r q.2)) n 0 = some (xs, l)) {R : α → List Value → List Nat → Prop} (hz : R z e.zc [])
    (hf : ∀ x y m, f (r x) = some (y, m) → (g x).cells.size = e.size ∧ R y (g x).cells.toList m) :
    ∃ out : Array Value, (Instr.buildSlice T n (ps.map fun q => (q.1, g q.2)).toArray).run P w = .ok (.slice (some ⟨w.heap.size, 0, none⟩) n n) (w.alloc (.cells out E)) ∧ out.size = n * e.size ∧
      ∀ j x m, j < n → litPart f z (ps.map fun q => (q.1, r q.2)) j = some (x, m) → R x ((out.toList.drop (j * e.size)).take e.size) m := by
  obtain ⟨dd, hu, rfl, m0, hE⟩ := (hA _ _ _ hT).und
  have hEt := hA _ _ _ hE
  obtain ⟨inf, hi, his, hib, zv, hzv, hzc⟩ := hEt.info
  obtain ⟨hz1, hz2⟩ := zcells hzc
  obtain ⟨_, hparts⟩ := litL_part hl
  have hpart : ∀ q ∈ ps, ∃ y m, f (r q.2) = some (y, m) := fun q hq => by
    obtain ⟨x, m, g1, _⟩ := hparts q.1 (Nat.zero_le _) (by have := hk q hq; omega)
    unfold litPart at g1
    rw [List.find?_map] at g1
    have hfind : ps.find? ((fun q' : Nat × AV => Nat.beq q'.1 q.1) ∘ fun q => (q.1, r q.2)) = some q := find_key hnd hq
    rw [hfind] at g1
    exact ⟨x, m, g1⟩
  obtain ⟨out, g1, g2, g3⟩ := fill_row (sz := e.size) (n := n) g ps (madeCells zv.cells (n * e.size)) (fun q hq => by
    obtain ⟨y, m, hy⟩ := hpart q hq
    exact ⟨hk q hq, (hf _ _ _ hy).1⟩) hnd (size_madeCells _ _)
  refine ⟨out, ?_, g2, fun j x m hj hp => ?_⟩
  · have hlim' : ¬ (16777216 < n * e.size) := by omega
    by_cases hn : n * e.size = 0
    · have e0' : madeCells zv.cells (n * e.size) = #[] := Array.eq_empty_of_size_eq_zero (by rw [size_madeCells]; exact hn)
      rw [e0'] at g1
      simp [Instr.buildSlice, run_underlying hu, sizeOf, typeInfo, hi, his, hn, newRow, Array.range_zero', g1]
    · unfold madeCells at g1
      simp [Instr.buildSlice, run_underlying hu, sizeOf, typeInfo, hi, his, hn, hlim', newRow, zeroValue, hzv, g1]
  · rw [g3 j hj]
    unfold litPart at hp
    rw [List.find?_map] at hp
    have hcomp : ps.find? ((fun q' : Nat × AV => Nat.beq q'.1 j) ∘ fun q => (q.1, r q.2)) = ps.find? (fun q => Nat.beq q.1 j) := rfl
    rw [hcomp] at hp
    cases hq : ps.find? (fun q => Nat.beq q.1 j) with
    | none =>
      rw [hq] at hp; simp at hp
      obtain ⟨rfl, rfl⟩ := hp
      rw [made_seg hz2 hj, hz1]
      simpa using hz
    | some q =>
      rw [hq] at hp; simp at hp
      simp only
      exact (hf _ _ _ hp).2

theorem does_buildSlice (hA : TyAll P X) {T : TypeId} {n : Nat} {parts : Array (Nat × Operand)} (ho : o.op = .buildSlice T n parts) (h : Sim w st ρ φ X.n a s) (hle : Le hp s.hp) {d : Nat} (hdst : o.dst = some d) (hd : dstOk X o.dst = true)
    {E : TypeId} {e : Sh} {nf : Nat} (hT : X.ty T = some (.sl E e, nf)) {r : Res} (hfree : ∀ ob, r.up = [(d, ob)] → (hp d).isNone = true → s.hp d = .none ∧ d % 10000 < 5000) (hr : buildSliceAV hp d E e n (parts.toList.map fun q => (q.1, rho X s.env 0 q.2)) = some r) : Does P X o w st ρ φ a s r := by
  unfold buildSliceAV at hr
  cases hps : partsSeq (parts.toList.map fun q => (q.1, rho X s.env 0 q.2)) n e.size
  · rw [hps] at hr; cases hr
  rw [hps] at hr; simp only [cond_true] at hr
  simp only [partsSeq, Bool.and_eq_true, List.all_eq_true, nodup_iff, Nat.ble_eq, Nat.blt_eq] at hps
  obtain ⟨⟨hk, hnd⟩, hlim⟩ := hps
  have hk' : ∀ q ∈ parts.toList, q.1 < n := fun q hq => hk _ (List.mem_map.2 ⟨q, hq, rfl⟩)
  have hnd' : (parts.toList.map (·.1)).Nodup := by rw [List.map_map] at hnd; exact hnd
  have hexec : ∀ {r w'}, (Instr.buildSlice T n (parts.toList.map fun q => (q.1, a.eval q.2)).toArray).run P w = .ok r w' → (execOp a.eval o).run P w = .ok (.value r) w' := fun hrun => by
    have e1 : (parts.map fun x => match x with | (i, x) => (i, a.eval x)) = (parts.toList.map fun q => (q.1, a.eval q.2)).toArray := by
      apply Array.ext'; rw [Array.toList_map]
    simp only [execOp, ho]
    rw [e1]
    simp [hrun]
  cases hl : litL (fun v => absorb hp e v) e.zero (parts.toList.map fun q => (q.1, rho X s.env 0 q.2)) n 0 with
  | some p =>
    obtain ⟨xs, l⟩ := p
    rw [hl] at hr; simp only at hr
    cases hc : (nodup l && (hp d).isNone)
    · rw [hc] at hr; cases hr
    rw [hc] at hr; simp only [cond_true, Option.some.injEq] at hr
    subst hr
    simp only [Bool.and_eq_true, nodup_iff] at hc
    obtain ⟨hf1, hf2⟩ := hfree _ rfl hc.2
    obtain ⟨hlen, hown⟩ := litL_get (φ := φ) hl hc.1
    obtain ⟨out, g1, g2, g3⟩ := run_lit (w := w) hA hT (rho X s.env 0) a.eval hk' hnd' hlim hl (R := fun x c m => m.Nodup → Ow w e x c (fun b => ∃ id ∈ m, φ id b)) (fun _ => zero_Ow e _) (fun x y m hf => by
      obtain ⟨cs, hv, hrc⟩ := absorb_RV hf (opnd_RV h 0 x)
      have hcs := VR_cells hv (RC_ones hrc)
      refine ⟨?_, fun hm => by rw [hcs]; exact absorb_Ow h hle hf hm hrc⟩
      have : cs.length = e.size := by
        -- the length
        cases hm : nodup m
        · exact absorb_len hf hrc
        · exact Ow_len (absorb_Ow h hle hf (nodup_iff.1 hm) hrc)
      rw [← this, ← hcs]; simp)
    have hkeep : ∀ b, b < w.heap.size → (w.alloc (.cells out E)).heap[b]? = w.heap[b]? := fun b hb => heap_alloc_old w _ b hb
    refine does_make (D := l) (F := fun b => b = w.heap.size ∨ ∃ id ∈ l, φ id b) h hdst hf1 hd hf2 (hexec g1) rfl rfl rfl (fun b hb _ => hkeep b hb) (by simp) ?_ ?_ _
    · rintro b (rfl | ⟨id, hid, hb⟩)
      · exact ⟨.inr (Nat.le_refl _), by simp⟩
      · exact ⟨.inl ⟨id, hid, hb⟩, by have := (h.lt id b hb).1; simp; omega⟩
    · refine .inr ⟨w.heap.size, n, out, fun b => ∃ id ∈ l, φ id b, by rw [hlen], .inl rfl, ?_, fun b hb => .inr hb, heap_alloc_new w _, by omega, ?_, g2, ?_⟩
      · rintro ⟨id, _, hb⟩; have := (h.lt id _ hb).1; omega
      · have hpos := (hA _ _ _ hT).und
        obtain ⟨_, _, rfl, m0, hE⟩ := hpos
        have h1 := (hA _ _ _ hE).pos
        have : n * 1 ≤ n * e.size := Nat.mul_le_mul_left _ h1
        unfold maxLen; omega
      · refine hown (R := fun x c F => Ow (w.alloc (.cells out E)) e x c F) (fun x c F F' hF hx => Ow_up hF hx) h.dj (fun j x m h1 h2 h3 h4 => ?_)
        have := g3 j x m (by omega) h3 h4
        rw [Nat.sub_zero]
        exact Ow_world (fun b ⟨id, _, hb⟩ => hkeep b (h.lt id b hb).1) this
  | none =>
    rw [hl] at hr; simp only at hr
    cases hl2 : litL (immF hp e) e.zero (parts.toList.map fun q => (q.1, rho X s.env 0 q.2)) n 0 with
    | none => rw [hl2] at hr; cases hr
    | some p =>
      obtain ⟨xs, l⟩ := p
      rw [hl2] at hr; simp only [Option.some.injEq] at hr
      subst hr
      obtain ⟨hlen, hpt⟩ := litL_part hl2
      obtain ⟨out, g1, g2, g3⟩ := run_lit (w := w) hA hT (rho X s.env 0) a.eval hk' hnd' hlim hl2 (R := fun x c m => Im w st e x c) (zero_Im e) (fun x y m hf => by
        have hf' : (rho X s.env 0 x).ids = [] ∧ toVal hp e (rho X s.env 0 x) = some y := by
          unfold immF at hf
          split at hf
          · rename_i hid
            split at hf
            · rename_i z hz; cases hf; exact ⟨hid, hz⟩
            · cases hf
          · cases hf
        obtain ⟨cs, hv, hrc⟩ := toVal_RV hf'.2 (opnd_RV h 0 x)
        have hcs := VR_cells hv (RC_ones hrc)
        have him := Im_up (st' := st) (fun b hb => by
          rcases hb with hb | ⟨id, hid, _⟩
          · exact hb
          · rw [hf'.1] at hid; cases hid) (toVal_Im h hle hf'.2 hrc)
        refine ⟨?_, by rw [hcs]; exact him⟩
        rw [← Im_len him, ← hcs]; simp)
      have hkeep : ∀ b, b < w.heap.size → (w.alloc (.cells out E)).heap[b]? = w.heap[b]? := fun b hb => heap_alloc_old w _ b hb
      have hsim := Sim.upd (up := []) (w' := w.alloc (.cells out E)) (st' := fun b => st b ∨ b = w.heap.size) (ρ' := ρ) (φ' := φ) h List.nodup_nil (fun _ h => .inl h) (fun b hb => hkeep b (h.stlt b hb)) (fun id _ => ⟨rfl, rfl, fun b hb => hkeep b (h.lt id b hb).1⟩)
        (by simp) (by simp) (fun _ => true) (by simp) (by simp) (fun id b hb => ⟨by have := (h.lt id b hb).1; simp; omega, fun hst => by
          rcases hst with hst | rfl
          · exact (h.lt id b hb).2 hst
          · have := (h.lt id _ hb).1; omega⟩) h.dj
        (fun b hb => by
          rcases hb with hb | rfl
          · have := h.stlt b hb; simp; omega
          · simp) (by simp)
      refine ⟨_, _, _, _, _, _, hexec g1, .inl rfl, hsim.put o.dst _ (.val (.sl E e) xs) (fun q hq => ?_) ?_ (by simp [AV.ids]), ?_⟩
      · rw [hq] at hd; simpa [dstOk, Nat.blt_eq] using hd
      · refine RV_val (S := .sl E e) (cs := [.slice (some ⟨w.heap.size, 0, none⟩) n n]) ⟨_, n, by rw [hlen], by omega, fun _ => ⟨w.heap.size, 0, rfl, .inr rfl, fun i x hx => ?_⟩⟩ (.inr ⟨rfl, rfl⟩)
        have hi : i < n := by
          have := (List.getElem?_eq_some_iff.1 hx).1; omega
        obtain ⟨y, m, q1, q2⟩ := hpt i (Nat.zero_le _) (by omega)
        rw [Nat.sub_zero, hx] at q2; cases q2
        refine ⟨_, Im_world (fun _ h => .inl h) (fun b hb => hkeep b (h.stlt b hb)) (g3 i x m hi q1), fun j v hv => ?_⟩
        have := slice_cells (heap_alloc_new w (.cells out E)) (o := i * e.size) (sz := e.size) j v hv
        rw [← this]; congr 2; omega
      · exact ⟨rfl, rfl, rfl, by simp, fun b hb _ => hkeep b hb, fun _ h => .inl h, fun b hb => hb.elim .inl (fun e => .inr (.inr (by omega))), fun id b hb => .inl ⟨id, hb⟩, fun id _ hn => ⟨by
          have : (s.app o.dst (Res.pure (.val (.sl E e) xs))).hp id = s.hp id := by cases o.dst <;> rfl
          rw [this] at hn; exact hn, rfl⟩⟩

end
end Go.Vm
