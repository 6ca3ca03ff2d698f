/- Single operations: slice literals, made slices, stores. -/
import Derived.Test.YtkjimaolpijoiaaVm8
set_option linter.unusedVariables false
set_option linter.unusedSimpArgs false
namespace Go.Vm

section
variable {P : Program} {X : Ctx} {w : World} {st : Blks} {ρ : Nat → Value} {φ : Nat → Blks} {n : Nat} {a : Act} {s : St} {o : Oper} {hp : Nat → Ob}

theorem absorb_RV {O : Nat → Ob} {S : Sh} {u : AV} {x : S.den} {D : List Nat} {v : Value} (ht : absorb hp S u = some (x, D)) (h : RV w st ρ O u v) : ∃ cs, VR S v cs ∧ RC w st ρ O u cs := by
  cases u with
  | val t y =>
    obtain ⟨e, _⟩ := absorb_val ht
    subst e
    exact RC_of_RV (S := t) (Fit_val.2 rfl) (by simp) h
  | pair p q =>
    cases S with
    | pair a b =>
      rcases h with ⟨h, _⟩ | ⟨_, h⟩
      · cases h
      · rcases h with h | ⟨_, cs, e, h⟩ | ⟨h, _⟩
        · cases h
        · exact ⟨cs.toList, .inl ⟨rfl, by simp [e]⟩, h⟩
        · cases h
    | _ => cases ht
  | nilv T e =>
    cases S with
    | sl T' e' => exact ⟨[v], .inr ⟨rfl, rfl⟩, RC_scalar h rfl rfl (by simp)⟩
    | _ => cases ht
  | sref id ix p =>
    cases S with
    | sl T' e' => exact ⟨[v], .inr ⟨rfl, rfl⟩, RC_scalar h rfl rfl (by simp)⟩
    | _ => simp [absorb] at ht
  | _ => cases S <;> cases ht

/-! ### Rows of their own -/
theorem OwL_free {α : Type} {R : α → List Value → Blks → Prop} {sz : Nat} : ∀ {xs : List α} {cs : List Value} {F : Blks}, (∀ i x, xs[i]? = some x → R x ((cs.drop (i * sz)).take sz) (fun _ => False)) → OwL R sz xs cs F
  | [], _, _, _ => trivial
  | x :: xs, cs, F, h => by
    refine ⟨fun _ => False, F, fun _ h _ => h, fun _ h => h.elim, fun _ h => h, by simpa using h 0 x rfl, OwL_free (fun i y hy => ?_)⟩
    have := h (i + 1) y (by simpa using hy)
    rw [List.drop_drop]
    rwa [show sz + i * sz = (i + 1) * sz by rw [Nat.add_mul]; omega]

theorem made_seg {z : Array Value} {sz n i : Nat} (hz : z.size = sz) (hi : i < n) : ((madeCells z (n * sz)).toList.drop (i * sz)).take sz = z.toList := by
  apply List.ext_getElem?
  intro j
  rw [List.getElem?_take, List.getElem?_drop]
  by_cases hj : j < sz
  · have h1 : i * sz + j < n * sz := by
      have : (i + 1) * sz ≤ n * sz := Nat.mul_le_mul_right _ hi
      rw [Nat.add_mul] at this; omega
    have h2 : (i * sz + j) % sz = j := by rw [Nat.mul_comm, Nat.mul_add_mod]; exact Nat.mod_eq_of_lt hj
    have h3 : j < z.size := by omega
    rw [if_pos hj, Array.getElem?_toList]
    simp [madeCells, h1, hz, h2]
    rw [getElem!_pos z j h3]; simp [h3]
  · rw [if_neg hj, List.getElem?_eq_none (by simp; omega)]

theorem zcells {S : Sh} {z : Value} (hz : VR S z S.zc) : z.cells = S.zc.toArray ∧ z.cells.size = S.size := by
  have := VR_cells hz (Ow_ones (w := default) (zero_Ow S (fun _ => False)))
  have e : z.cells = S.zc.toArray := by rw [← this]
  exact ⟨e, by rw [e]; simp [zc_len]⟩

theorem replicate_get {α : Type} {n i : Nat} {x y : α} (h : (List.replicate n x)[i]? = some y) : i < n ∧ y = x := by
  rw [List.getElem?_replicate] at h
  split at h
  · exact ⟨‹_›, by simpa using h.symm⟩
  · cases h

theorem does_makeSlice (hA : TyAll P X) {T : TypeId} {x y : Operand} (ho : o.op = .makeSlice T x y) (h : Sim w st ρ φ X.n a s) {d : Nat} (hdst : o.dst = some d) (hfree : s.hp d = .none) (hd : dstOk X o.dst = true) (h5 : d % 10000 < 5000)
    {E : TypeId} {e : Sh} {nf : Nat} (hT : X.ty T = some (.sl E e, nf)) {k k' : IntKind} {i m : Int} (hx : rho X s.env 0 x = .val (.int k) i) (hy : rho X s.env 0 y = .val (.int k') m) (h0 : 0 ≤ i) (h1 : i ≤ 4294967296) (hm : m = i) (c : Bool) :
    Does P X o w st ρ φ a s ⟨c, .sref d none [], [(d, .arr E e (List.replicate i.toNat e.zero))], [], []⟩ := by
  subst hm
  have vx := int_of_RV (hx ▸ opnd_RV h 0 x)
  have vy := int_of_RV (hy ▸ opnd_RV h 0 y)
  obtain ⟨dd, hu, rfl, m0, hE⟩ := (hA _ _ _ hT).und
  have hEt := hA _ _ _ hE
  obtain ⟨inf, hi, his, hib, z, hz, hzc⟩ := hEt.info
  obtain ⟨hz1, hz2⟩ := zcells hzc
  have hb : (inf.bytes : Int) * m ≤ 281474976710656 := by
    have h2 : inf.bytes * m.toNat ≤ 32768 * 4294967296 := Nat.mul_le_mul hib (by omega)
    have h3 : ((inf.bytes * m.toNat : Nat) : Int) = (inf.bytes : Int) * m := by rw [Int.natCast_mul, Int.toNat_of_nonneg h0]
    rw [← h3]
    have : (32768 * 4294967296 : Nat) ≤ 281474976710656 := by decide
    omega
  have hrun := run_make (P := P) w T E inf z hu hi hz k k' m m h0 (Int.le_refl _) hb (by omega)
  have hkeep : ∀ b, b < w.heap.size → (w.alloc (.cells (madeCells z.cells (m.toNat * inf.size)) E)).heap[b]? = w.heap[b]? := fun b hb => heap_alloc_old w _ b hb
  have hex : (execOp a.eval o).run P w = .ok (.value (.slice (some ⟨w.heap.size, 0, none⟩) m.toNat m.toNat)) (w.alloc (.cells (madeCells z.cells (m.toNat * inf.size)) E)) := by simp [execOp, ho, vx, vy, hrun]
  refine does_make (D := []) (F := fun b => b = w.heap.size) h hdst hfree hd h5 hex rfl rfl rfl (fun b hb _ => hkeep b hb) (by simp) ?_ ?_ _
  · rintro b rfl; exact ⟨.inr (Nat.le_refl _), by simp⟩
  · refine .inr ⟨w.heap.size, m.toNat, _, fun _ => False, by simp, rfl, fun h => h, fun _ h => h.elim, heap_alloc_new w _, by simp, by unfold maxLen; omega, by rw [size_madeCells, his], ?_⟩
    refine OwL_free (fun i x hx => ?_)
    obtain ⟨hi, rfl⟩ := replicate_get hx
    rw [his, made_seg hz2 hi, hz1]
    exact zero_Ow e _

theorem seg_patch {cs cu : List Value} {o l k : Nat} (h : o + cu.length ≤ cs.length) (hk : k + l ≤ o ∨ o + cu.length ≤ k) : ((patch cs o cu).drop k).take l = (cs.drop k).take l :=
  seg_eq fun j h1 h2 => patch_out h (by omega)

theorem seg_apart {sz i j : Nat} (h : i ≠ j) : i * sz + sz ≤ j * sz ∨ j * sz + sz ≤ i * sz := by
  rcases Nat.lt_or_gt_of_ne h with h | h
  · left; have : (i + 1) * sz ≤ j * sz := Nat.mul_le_mul_right _ h
    rw [Nat.add_mul] at this; omega
  · right; have : (j + 1) * sz ≤ i * sz := Nat.mul_le_mul_right _ h
    rw [Nat.add_mul] at this; omega

theorem fill_row {sz n : Nat} (g : Operand → Value) : ∀ (ps : List (Nat × Operand)) (cells : Array Value), (∀ q ∈ ps, q.1 < n ∧ (g q.2).cells.size = sz) → (ps.map (·.1)).Nodup → cells.size = n * sz →
    ∃ out, Instr.fill (fun i => some (i * sz, sz)) cells (ps.map fun q => (q.1, g q.2)) = some out ∧ out.size = n * sz ∧
      ∀ j, j < n → (out.toList.drop (j * sz)).take sz = (match ps.find? (fun q => Nat.beq q.1 j) with | some q => (g q.2).cells.toList | none => (cells.toList.drop (j * sz)).take sz)
  | [], cells, _, _, hs => ⟨cells, rfl, hs, fun j hj => rfl⟩
  | (i, x) :: ps, cells, hq, hn, hs => by
    obtain ⟨h1, h2⟩ := hq (i, x) (by simp)
    simp only [List.map_cons, List.nodup_cons] at hn
    have hfit : i * sz + sz ≤ cells.size := by
      rw [hs]; have : (i + 1) * sz ≤ n * sz := Nat.mul_le_mul_right _ h1
      rw [Nat.add_mul] at this; omega
    have hl : (g x).cells.toList.length = sz := by simpa using h2
    have hfit' : i * sz + (g x).cells.toList.length ≤ cells.toList.length := by simp [h2]; omega
    have hpl : (patch cells.toList (i * sz) (g x).cells.toList).length = cells.toList.length := patch_len hfit'
    obtain ⟨out, g1, g2, g3⟩ := fill_row g ps (patch cells.toList (i * sz) (g x).cells.toList).toArray (fun q hq' => hq q (by simp [hq'])) hn.2 (by rw [List.size_toArray, hpl]; simpa using hs)
    refine ⟨out, ?_, g2, fun j hj => ?_⟩
    · rw [List.map_cons, fill_step rfl h2 hfit]; exact g1
    · rw [g3 j hj, List.find?_cons]
      by_cases hij : i = j
      · subst hij
        have : (Nat.beq i i) = true := Nat.beq_eq ▸ rfl
        rw [this]
        have hno : ps.find? (fun q => Nat.beq q.1 i) = none := by
          rw [List.find?_eq_none]
          intro q hq' e
          exact hn.1 (List.mem_map.2 ⟨q, hq', Nat.eq_of_beq_eq_true e⟩)
        rw [hno]
        simp only
        have := patch_in (cs := cells.toList) (cu := (g x).cells.toList) (o := i * sz) hfit'
        rw [hl] at this; exact this
      · have : (Nat.beq i j) = false := by
          rw [Bool.eq_false_iff]; intro e; exact hij (Nat.eq_of_beq_eq_true e)
        rw [this]
        cases ps.find? (fun q => Nat.beq q.1 j) with
        | some q => rfl
        | none =>
          simp only
          rw [seg_patch hfit']
          rw [hl]
          have := seg_apart (sz := sz) hij
          omega

/-- The parts of a slice literal, one after the other. -/
theorem litL_get {α : Type} {f : AV → Option (α × List Nat)} {z : α} {parts : List (Nat × AV)} : ∀ {n i : Nat} {xs : List α} {l : List Nat}, litL f z parts n i = some (xs, l) → l.Nodup → xs.length = n ∧
    ∀ {R : α → List Value → Blks → Prop} {sz : Nat} {cs : List Value}, (∀ x c F F', (∀ b, F b → F' b) → R x c F → R x c F') → (∀ id id' b, φ id b → φ id' b → id = id') →
      (∀ j x m, i ≤ j → j < i + n → litPart f z parts j = some (x, m) → m.Nodup → R x ((cs.drop ((j - i) * sz)).take sz) (fun b => ∃ id ∈ m, φ id b)) →
      OwL R sz xs cs (fun b => ∃ id ∈ l, φ id b)
  | 0, i, xs, l, h, _ => by cases h; exact ⟨rfl, fun _ _ _ => trivial⟩
  | n + 1, i, xs, l, h, hnd => by
    simp only [litL] at h
    cases hh : litPart f z parts i with
    | none => rw [hh] at h; cases h
    | some p =>
      obtain ⟨x, l1⟩ := p
      rw [hh] at h; simp only at h
      cases ht : litL f z parts n (i + 1) with
      | none => rw [ht] at h; cases h
      | some q =>
        obtain ⟨ys, l2⟩ := q
        rw [ht] at h; simp only [Option.some.injEq, Prod.mk.injEq] at h
        obtain ⟨rfl, rfl⟩ := h
        have hnd' := List.nodup_append.1 hnd
        obtain ⟨ih1, ih2⟩ := litL_get ht hnd'.2.1
        refine ⟨by simp [ih1], fun {R sz cs} hup hdj hp => ?_⟩
        refine ⟨fun b => ∃ id ∈ l1, φ id b, fun b => ∃ id ∈ l2, φ id b, ?_, fun b ⟨id, hid, hb⟩ => ⟨id, by simp [hid], hb⟩, fun b ⟨id, hid, hb⟩ => ⟨id, by simp [hid], hb⟩, ?_, ?_⟩
        · rintro b ⟨id, hid, hb⟩ ⟨id', hid', hb'⟩
          have := hdj id id' b hb hb'; subst this
          exact hnd'.2.2 id hid id hid' rfl
        · have := hp i x l1 (Nat.le_refl _) (by omega) hh hnd'.1
          simpa using this
        · refine ih2 hup hdj (fun j y m h1 h2 h3 h4 => ?_)
          have := hp j y m (by omega) (by omega) h3 h4
          rw [List.drop_drop]
          rwa [show sz + (j - (i + 1)) * sz = (j - i) * sz by
            rw [show j - i = (j - (i + 1)) + 1 by omega, Nat.add_mul]; omega]

end
end Go.Vm
