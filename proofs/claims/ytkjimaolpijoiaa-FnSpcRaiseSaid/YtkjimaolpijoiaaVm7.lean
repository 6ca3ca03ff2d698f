/- Single operations that make memory or turn it. -/
import Derived.Test.YtkjimaolpijoiaaVm6
import Derived.Deep.AppendSrc
set_option linter.unusedVariables false
set_option linter.unusedSimpArgs false
namespace Go.Vm

section
variable {P : Program} {X : Ctx} {w : World} {st : Blks} {ρ : Nat → Value} {φ : Nat → Blks} {n : Nat} {a : Act} {s : St} {o : Oper} {hp : Nat → Ob}

theorem isNone_iff {o : Ob} : o.isNone = true ↔ o = .none := by cases o <;> simp [Ob.isNone]

theorem scrub_hp_none {D : List Nat} {d : Nat} (h : s.hp d = .none) : (s.scrub D).hp d = .none := by
  cases D with
  | nil => exact h
  | cons x D =>
    show (bif mem d (x :: D) then Ob.none else (s.hp d).mapA _) = _
    cases mem d (x :: D)
    · rw [h]; rfl
    · rfl

theorem scrub_live {D : List Nat} {id : Nat} (h : (s.scrub D).hp id ≠ .none) : s.hp id ≠ .none ∧ id ∉ D := by
  cases D with
  | nil => exact ⟨h, by simp⟩
  | cons x D =>
    have h' : (bif mem id (x :: D) then Ob.none else (s.hp id).mapA (AV.scrub (x :: D))) ≠ .none := h
    cases hm : mem id (x :: D)
    · rw [hm] at h'
      exact ⟨fun e => h' (by rw [e]; rfl), mem_false.1 hm⟩
    · rw [hm] at h'; exact absurd rfl h'

/-- A new array, made of what is taken up. -/
theorem Sim.make {w' : World} {D : List Nat} {d : Nat} {T : TypeId} {e : Sh} {xs : List e.den} {r : Value} {F : Blks} (h : Sim w st ρ φ n a s) (hd : s.hp d = .none)
    (hw : ∀ b, st b → w'.heap[b]? = w.heap[b]?) (hφ : ∀ id, id ∉ D → ∀ b, φ id b → w'.heap[b]? = w.heap[b]?) (hsz : w.heap.size ≤ w'.heap.size)
    (hF : ∀ b, F b → ((∃ id ∈ D, φ id b) ∨ w.heap.size ≤ b) ∧ b < w'.heap.size) (hob : Ow w' (.sl T e) xs [r] F) :
    Sim w' st (Go.Vm.upd ρ d r) (fun id b => if id = d then F b else φ id b ∧ id ∉ D) n a ⟨(s.scrub D).env, updL (s.scrub D).hp [(d, .arr T e xs)]⟩ := by
  have hs := h.scrub D
  have hdn := scrub_hp_none (D := D) hd
  have hφd : ∀ b, ¬ φ d b := by have := h.ob d; rw [hd] at this; exact this
  refine hs.upd (by simp) (fun _ h => h) hw (fun id hid => ?_) (by simp) (fun q hq => ?_) (fun _ => true) (fun q hq hne => ?_) (by simp) (fun id b hb => ?_) (fun i j b h1 h2 => ?_) (fun b hb => Nat.lt_of_lt_of_le (h.stlt b hb) hsz) (by simp [Ob.ids])
  · have hne : id ≠ d := by simpa using hid
    refine ⟨upd_ne _ _ hne, by funext b; simp [hne], fun b hb => hφ id hb.2 b hb.1⟩
  · simp at hq; subst hq
    show Ow w' (.sl T e) xs [Go.Vm.upd ρ d r d] (fun b => if d = d then F b else _)
    rw [upd_same]
    exact Ow_up (fun b hb => by simpa using hb) hob
  · simp at hq; subst hq; exact absurd hdn hne
  · by_cases hid : id = d
    · simp only [hid, if_true] at hb
      obtain ⟨hb1, hb2⟩ := hF b hb
      refine ⟨hb2, fun hst => ?_⟩
      rcases hb1 with ⟨i, _, hi⟩ | hb1
      · exact (h.lt i b hi).2 hst
      · have := h.stlt b hst; omega
    · simp only [hid, if_false] at hb
      exact ⟨Nat.lt_of_lt_of_le (h.lt id b hb.1).1 hsz, (h.lt id b hb.1).2⟩
  · by_cases hi : i = d <;> by_cases hj : j = d
    · rw [hi, hj]
    · simp only [hi, if_true] at h1; simp only [hj, if_false] at h2
      exfalso
      rcases (hF b h1).1 with ⟨k, hk, hkb⟩ | hge
      · have := h.dj k j b hkb h2.1; subst this; exact h2.2 hk
      · have := (h.lt j b h2.1).1; omega
    · simp only [hj, if_true] at h2; simp only [hi, if_false] at h1
      exfalso
      rcases (hF b h2).1 with ⟨k, hk, hkb⟩ | hge
      · have := h.dj k i b hkb h1.1; subst this; exact h1.2 hk
      · have := (h.lt i b h1.1).1; omega
    · simp only [hi, hj, if_false] at h1 h2
      exact h.dj i j b h1.1 h2.1

theorem does_make {w' : World} {D : List Nat} {d : Nat} {T : TypeId} {e : Sh} {xs : List e.den} {r : Value} {F : Blks} (h : Sim w st ρ φ X.n a s) (hdst : o.dst = some d) (hd : s.hp d = .none) (hok : dstOk X o.dst = true) (h5 : d % 10000 < 5000)
    (hrun : (execOp a.eval o).run P w = .ok (.value r) w')
    (hos : w'.os = w.os) (htape : w'.tape = w.tape) (hout : w'.output = w.output)
    (hkeep : ∀ b, b < w.heap.size → (∀ id ∈ D, ¬ φ id b) → w'.heap[b]? = w.heap[b]?) (hsz : w.heap.size ≤ w'.heap.size)
    (hF : ∀ b, F b → ((∃ id ∈ D, φ id b) ∨ w.heap.size ≤ b) ∧ b < w'.heap.size) (hob : Ow w' (.sl T e) xs [r] F) (c : Bool) :
    Does P X o w st ρ φ a s ⟨c, .sref d none [], [(d, .arr T e xs)], D, []⟩ := by
  have hm := h.make (D := D) (r := r) hd (fun b hb => hkeep b (h.stlt b hb) (fun id _ hid => (h.lt id b hid).2 hb))
    (fun id hid b hb => hkeep b (h.lt id b hb).1 (fun j hj hjb => hid (h.dj id j b hb hjb ▸ hj))) hsz hF hob
  have hone : r.oneCell' = true := by
    have := Ow_ones hob r (by simp); exact this
  refine ⟨_, r, w', st, _, _, hrun, .inl rfl, hm.put o.dst r _ (fun q hq => ?_) ?_ ?_, ?_⟩
  · rw [hq] at hok; simpa [dstOk, Nat.blt_eq] using hok
  · refine RV_scalar (av := .sref d none []) ⟨rfl, ⟨T, e, xs, ?_⟩, ?_, ?_⟩ rfl rfl
    · show upd _ d _ d = _; rw [upd_same]
    · rw [upd_same]
    · rw [upd_same]; exact hone
  · intro id hid
    simp [AV.ids] at hid; subst hid
    show upd _ id _ id ≠ _; rw [upd_same]; simp
  · refine ⟨hos, htape, hout, hsz, fun b hb hn => hkeep b hb (fun id _ => hn id), fun _ h => h, fun _ h => .inl h, fun id b hb => ?_, fun id hp5 hn => ?_⟩
    · by_cases hid : id = d
      · simp only [hid, if_true] at hb
        rcases (hF b hb).1 with ⟨i, _, hi⟩ | hge
        · exact .inl ⟨i, hi⟩
        · exact .inr hge
      · simp only [hid, if_false] at hb; exact .inl ⟨id, hb.1⟩
    · have hne : id ≠ d := fun e => by rw [e] at hp5; omega
      have hn' : upd (s.scrub D).hp d (.arr T e xs) id ≠ .none := by
        have : (s.app o.dst ⟨c, .sref d none [], [(d, .arr T e xs)], D, []⟩).hp id = upd (s.scrub D).hp d (.arr T e xs) id := by
          rw [hdst]; rfl
        rw [← this]; exact hn
      rw [upd_ne _ _ hne] at hn'
      exact ⟨(scrub_live hn').1, upd_ne _ _ hne⟩

/-! ### Rows -/
theorem OwL_prefix {α : Type} {R : α → List Value → Blks → Prop} {sz : Nat} : ∀ {xs : List α} {cs cs' : List Value} {F : Blks}, OwL R sz xs cs F → (∀ k, k < xs.length * sz → cs'[k]? = cs[k]?) → OwL R sz xs cs' F
  | [], _, _, _, _, _ => trivial
  | x :: xs, cs, cs', F, ⟨F1, F2, h1, h2, h3, h4, h5⟩, hc => by
    have hl : (x :: xs).length * sz = sz + xs.length * sz := by rw [List.length_cons, Nat.add_mul]; omega
    refine ⟨F1, F2, h1, h2, h3, ?_, OwL_prefix h5 (fun k hk => ?_)⟩
    · have : cs'.take sz = cs.take sz := by
        have := seg_eq (cs := cs) (cs' := cs') (a := 0) (n := sz) (fun k _ hk => hc k (by omega))
        simpa using this
      rw [this]; exact h4
    · simp only [List.getElem?_drop]
      exact hc _ (by omega)

theorem OwL_append {α : Type} {R : α → List Value → Blks → Prop} {sz : Nat} : ∀ {xs ys : List α} {c1 c2 : List Value} {F1 F2 F : Blks}, OwL R sz xs c1 F1 → OwL R sz ys c2 F2 → c1.length = xs.length * sz →
    (∀ b, F1 b → F2 b → False) → (∀ b, F1 b → F b) → (∀ b, F2 b → F b) → OwL R sz (xs ++ ys) (c1 ++ c2) F
  | [], ys, c1, c2, F1, F2, F, _, h2, hl, _, _, hF => by
    have : c1 = [] := List.eq_nil_of_length_eq_zero (by simpa using hl)
    subst this
    exact OwL_up hF h2
  | x :: xs, ys, c1, c2, F1, F2, F, ⟨G1, G2, g1, g2, g3, g4, g5⟩, h2, hl, hdis, hF1, hF2 => by
    have hl' : c1.length = sz + xs.length * sz := by rw [hl, List.length_cons, Nat.add_mul]; omega
    refine ⟨G1, fun b => G2 b ∨ F2 b, ?_, fun b hb => hF1 b (g2 b hb), ?_, ?_, ?_⟩
    · rintro b hb (h | h)
      · exact g1 b hb h
      · exact hdis b (g2 b hb) h
    · rintro b (h | h)
      · exact hF1 b (g3 b h)
      · exact hF2 b h
    · rw [List.take_append_of_le_length (by omega)]; exact g4
    · rw [List.drop_append_of_le_length (by omega)]
      exact OwL_append g5 h2 (by rw [List.length_drop]; omega) (fun b h1 h2 => hdis b (g3 b h1) h2) (fun b h => .inl h) (fun b h => .inr h)

theorem OwL_ones {α : Type} {R : α → List Value → Blks → Prop} {sz : Nat} (hR : ∀ x c G, R x c G → c.length = sz ∧ Ones c) : ∀ {xs : List α} {cs : List Value} {F : Blks}, OwL R sz xs cs F → Ones (cs.take (xs.length * sz)) ∧ xs.length * sz ≤ cs.length
  | [], cs, _, _ => by simp [Ones]
  | x :: xs, cs, F, ⟨F1, F2, h1, h2, h3, h4, h5⟩ => by
    obtain ⟨hl, ho⟩ := hR _ _ _ h4
    obtain ⟨ih1, ih2⟩ := OwL_ones hR h5
    rw [List.length_take] at hl
    rw [List.length_drop] at ih2
    have e : (x :: xs).length * sz = sz + xs.length * sz := by rw [List.length_cons, Nat.add_mul]; omega
    refine ⟨?_, by omega⟩
    rw [e]
    have : cs.take (sz + xs.length * sz) = cs.take sz ++ (cs.drop sz).take (xs.length * sz) := by
      rw [List.take_add]
    rw [this]
    intro v hv
    rcases List.mem_append.1 hv with hv | hv
    · exact ho v hv
    · exact ih1 v hv

theorem Ow_R (w : World) (e : Sh) : ∀ (x : e.den) c G, Ow w e x c G → c.length = e.size ∧ Ones c := fun x c G h => ⟨Ow_len h, Ow_ones h⟩

/-- Flat elements that are read: their cells in a row. -/
theorem Im_row {e : Sh} (hf : e.flat = true) {w0 : World} {st0 : Blks} {b : Nat} : ∀ (xs : List e.den) (o : Nat), (∀ i x, xs[i]? = some x → ∃ cc, Im w0 st0 e x cc ∧ ∀ j v, cc[j]? = some v → w0.cell? ⟨b, o + i * e.size + j, none⟩ = some v) →
    ∃ news : List Value, news.length = xs.length * e.size ∧ (∀ j v, news[j]? = some v → w0.cell? ⟨b, o + j, none⟩ = some v) ∧ Ones news ∧ ∀ (w' : World) (F : Blks), OwL (fun x c G => Ow w' e x c G) e.size xs news F
  | [], o, _ => ⟨[], by simp, by simp, by simp [Ones], fun _ _ => trivial⟩
  | x :: xs, o, h => by
    obtain ⟨cc, h1, h2⟩ := h 0 x rfl
    obtain ⟨news, g1, g2, g3, g4⟩ := Im_row hf xs (o + e.size) (fun i y hy => by
      obtain ⟨c, hc1, hc2⟩ := h (i + 1) y (by simpa using hy)
      refine ⟨c, hc1, fun j v hv => ?_⟩
      rw [← hc2 j v hv]; congr 2; rw [Nat.add_mul]; omega)
    have hl := Im_len h1
    refine ⟨cc ++ news, by rw [List.length_append, hl, g1, List.length_cons, Nat.add_mul]; omega, ?_, ?_, ?_⟩
    · intro j v hv
      by_cases hj : j < cc.length
      · rw [List.getElem?_append_left hj] at hv
        have := h2 j v hv
        simpa using this
      · rw [List.getElem?_append_right (by omega)] at hv
        rw [← g2 _ v hv]; congr 2; omega
    · intro v hv
      rcases List.mem_append.1 hv with hv | hv
      · exact Im_ones h1 v hv
      · exact g3 v hv
    · intro w' F
      refine ⟨fun _ => False, F, fun _ h _ => h, fun _ h => h.elim, fun _ h => h, ?_, ?_⟩
      · rw [List.take_append_of_le_length (by omega), List.take_of_length_le (by omega)]; exact Im_Ow hf h1
      · have : (cc ++ news).drop e.size = news := by rw [← hl, List.drop_left]
        rw [this]; exact g4 w' F

/-! ### Appends -/
/-- What is appended yields its cells. -/
theorem right_ok {T t : TypeId} {e : Sh} {nf : Nat} (hA : TyAll P X) (hT : X.ty t = some (.sl T e, nf)) (h : Sim w st ρ φ n a s) (hle : Le hp s.hp) {v : AV} {y : Value} (hv : RV w st ρ s.hp v y) {ys : List e.den} {D : List Nat} (hr : appRight hp T e v = some (ys, D)) (hD : D.Nodup) :
    ∃ news : List Value, Src P e.size t y ys.length news w ∧ (∀ w' : World, (∀ id ∈ D, ∀ b, φ id b → w'.heap[b]? = w.heap[b]?) → OwL (fun x c G => Ow w' e x c G) e.size ys news (fun b => ∃ id ∈ D, φ id b)) := by
  obtain ⟨d, hu, rfl, _⟩ := (hA _ _ _ hT).und
  unfold appRight at hr
  cases hf : e.flat with
  | true =>
    rw [hf] at hr; simp only [cond_true] at hr
    cases ht : toVal hp (.sl T e) v with
    | none => rw [ht] at hr; cases hr
    | some zs =>
      rw [ht] at hr; cases hr
      obtain ⟨cs, hvr, hrc⟩ := toVal_RV ht hv
      obtain ⟨A, cap, ee, _, hel⟩ := toVal_Im h hle ht hrc
      rcases hvr with ⟨hh, _⟩ | ⟨_, hvr⟩
      · cases hh
      rw [hvr] at ee; cases ee
      by_cases hne : ys = []
      · subst hne
        cases A with
        | none => exact ⟨[], Src.ofNil w hu cap, fun _ _ => trivial⟩
        | some ad => exact ⟨[], Src.ofSlice w hu ad 0 cap [] (by simp) (by simp) (by simp), fun _ _ => trivial⟩
      · obtain ⟨b, of, rfl, hst, hc⟩ := hel hne
        obtain ⟨news, g1, g2, g3, g4⟩ := Im_row hf ys of hc
        exact ⟨news, Src.ofSlice w hu ⟨b, of, none⟩ _ cap news g1 (fun j u hj => by rw [add_at]; exact g2 j u hj) g3, fun w' _ => g4 w' _⟩
  | false =>
    rw [hf] at hr; simp only [cond_false] at hr
    cases v with
    | val t' y' =>
      obtain ⟨e', hff, _⟩ := absorb_val hr
      subst e'; simp [Sh.flat] at hff
    | nilv T' e' =>
      obtain ⟨rfl, rfl⟩ := absorb_nil hr
      obtain ⟨A, ee⟩ := RC_scalar hv rfl rfl (by simp)
      have ee : y = .slice A 0 0 := by simpa using ee
      subst ee
      cases A with
      | none => exact ⟨[], Src.ofNil w hu 0, fun _ _ => trivial⟩
      | some ad => exact ⟨[], Src.ofSlice w hu ad 0 0 [] (by simp) (by simp) (by simp), fun _ _ => trivial⟩
    | sref id ix p =>
      obtain ⟨rfl, rfl, rfl, hq⟩ := absorb_sref hr
      obtain ⟨_, _, ee, _⟩ := RC_scalar hv rfl rfl (by simp)
      have ee : y = ρ id := by simpa using ee
      have hob := h.ob id
      rw [hle.get hq (by simp)] at hob
      rcases hob with ⟨rfl, A, hA'⟩ | ⟨b, cap, arr, F', hA', g1, g2, g3, g4, g5, g6, g7, g8⟩
      · have hA' : ρ id = .slice A 0 0 := by simpa using hA'
        rw [ee, hA']
        cases A with
        | none => exact ⟨[], Src.ofNil w hu 0, fun _ _ => trivial⟩
        | some ad => exact ⟨[], Src.ofSlice w hu ad 0 0 [] (by simp) (by simp) (by simp), fun _ _ => trivial⟩
      · have hA' : ρ id = .slice (some ⟨b, 0, none⟩) ys.length cap := by simpa using hA'
        obtain ⟨o1, o2⟩ := OwL_ones (Ow_R w e) g8
        refine ⟨arr.toList.take (ys.length * e.size), ?_, fun w' hw' => ?_⟩
        · rw [ee, hA']
          refine Src.ofSlice w hu _ _ _ _ (by rw [List.length_take]; omega) (fun j u hj => ?_) o1
          rw [add_at]
          have := slice_cells (o := 0) (sz := ys.length * e.size) g4 j u (by simpa using hj)
          exact this
        · have := OwL_mono (R' := fun x c G => Ow w' e x c G) (fun x c G hG hx => Ow_world (fun b hb => hw' id (by simp) b (g3 b (hG b hb))) hx) g8
          have := OwL_up (F' := fun b => ∃ j ∈ [id], φ j b) (fun b hb => ⟨id, by simp, g3 b hb⟩) this
          exact OwL_prefix this (fun k hk => by rw [List.getElem?_take, if_pos hk])
    | _ => cases hr

theorem run_append_room_row {t tx ty e : TypeId} {i : TypeInfo} (ht : P.underlying t = some (.slice e)) (hi : P.info? e = some i)
    {g sLen sCap : Nat} {cur : Array Value} {e0 : TypeId} (hg : w.heap[g]? = some (.cells cur e0 (0, 0))) {x : Value} {m : Nat} {news : List Value} (hs : Src P i.size tx x m news w)
    (hroom : sLen + m ≤ sCap) (hfit : sLen * i.size + news.length ≤ cur.size) :
    (Builtin.append_ #[t, tx] ty #[.slice (some ⟨g, 0, none⟩) sLen sCap, x]).run P w =
      .ok (.slice (some ⟨g, 0, none⟩) (sLen + m) sCap) (w.setRow g (patch cur.toList (sLen * i.size) news).toArray) := by
  have hst := run_storeCells_at P g (sLen * i.size) e0 news 0 cur w hg (by simpa using hfit) hs.one
  simp only [Nat.add_zero] at hst
  rcases hs.kind with ⟨e', hk⟩ | hk <;> simp [Builtin.append_, run_underlying ht, run_underlying hk, sizeOf, typeInfo, hi, hs.len, hroom, hs.cells, Addr.add_lit, hst, patch]

theorem run_append_zero {t tx ty e : TypeId} {i : TypeInfo} (ht : P.underlying t = some (.slice e)) (hi : P.info? e = some i) {A : Option Addr} {x : Value} (hs : Src P i.size tx x 0 [] w) :
    (Builtin.append_ #[t, tx] ty #[.slice A 0 0, x]).run P w = .ok (.slice A 0 0) w := by
  rcases hs.kind with ⟨e', hk⟩ | hk <;> cases A <;> simp [Builtin.append_, run_underlying ht, run_underlying hk, sizeOf, typeInfo, hi, hs.len, hs.cells, storeCells]

theorem patch_len {cs cu : List Value} {o : Nat} (h : o + cu.length ≤ cs.length) : (patch cs o cu).length = cs.length := by
  simp [patch]; omega

theorem patch_out {cs cu : List Value} {o k : Nat} (h : o + cu.length ≤ cs.length) (hk : k < o ∨ o + cu.length ≤ k) : (patch cs o cu)[k]? = cs[k]? := by
  unfold patch
  rcases hk with hk | hk
  · rw [List.append_assoc, List.getElem?_append_left (by simp; omega), List.getElem?_take, if_pos hk]
  · rw [List.getElem?_append_right (by simp; omega), List.getElem?_drop]
    congr 1; simp; omega

theorem patch_in {cs cu : List Value} {o : Nat} (h : o + cu.length ≤ cs.length) : ((patch cs o cu).drop o).take cu.length = cu := by
  unfold patch
  rw [List.append_assoc, List.drop_append_of_le_length (by simp; omega)]
  rw [List.drop_of_length_le (by simp; omega), List.nil_append, List.take_left]

theorem does_append (hA : TyAll P X) {c : Call} (ho : o.op = .call c) (hcal : c.callee = .builtin .append) {x y : Operand} {t : TypeId} (ha : c.args.toList = [x, y]) (hts : c.argTypes.toList = [t, t]) {d : Nat} (hdst : o.dst = some d)
    (h : Sim w st ρ φ X.n a s) (hd : dstOk X o.dst = true) (hle : Le hp s.hp) {T : TypeId} {e : Sh} {nf : Nat} (hT : X.ty t = some (.sl T e, nf)) {r : Res}
    (hr : appendAV hp d T e (rho X s.env t x) (rho X s.env t y) = some r) (hc : r.c = true) (hfree : s.hp d = .none) (h5 : d % 10000 < 5000) : Does P X o w st ρ φ a s r := by
  have rx := opnd_RV h t x
  have ry := opnd_RV h t y
  have hargs : c.args = #[x, y] := by rw [← Array.toArray_toList (xs := c.args), ha]
  have hT2 : c.argTypes = #[t, t] := by rw [← Array.toArray_toList (xs := c.argTypes), hts]
  obtain ⟨dd, hu, rfl, m0, hE⟩ := (hA _ _ _ hT).und
  have hEt := hA _ _ _ hE
  obtain ⟨i, hi, his, hib, z, hz, hzc⟩ := hEt.info
  unfold appendAV at hr
  cases hl : appLeft hp T e (rho X s.env t x) with
  | none => rw [hl] at hr; simp at hr
  | some L =>
    obtain ⟨xs, l⟩ := L
    cases hR : appRight hp T e (rho X s.env t y) with
    | none => rw [hl, hR] at hr; simp at hr
    | some M =>
      obtain ⟨ys, m⟩ := M
      rw [hl, hR] at hr; simp only at hr
      cases hcond : (nodup (l ++ m) && (hp d).isNone)
      · rw [hcond] at hr; cases hr
      rw [hcond] at hr; simp only [cond_true, Option.some.injEq] at hr
      subst hr
      simp only [Bool.and_eq_true] at hcond
      have hnd := nodup_iff.1 hcond.1
      have hnd' := List.nodup_append.1 hnd
      simp only [decide_eq_true_eq] at hc
      obtain ⟨news, hsrc, hrow⟩ := right_ok hA hT h hle ry hR hnd'.2.1
      have hnl : news.length = ys.length * e.size := hsrc.newsLen
      have hexec : ∀ {r w'}, (Builtin.append_ #[t, t] o.type #[a.eval x, a.eval y]).run P w = .ok r w' → (execOp a.eval o).run P w = .ok (.value r) w' := fun hrun => by
        simp [execOp, ho, resolve, hcal, invoke, builtin, hargs, hT2, hrun]
      rw [← his] at hsrc
      -- the first argument
      have hleft : (xs = [] ∧ l = [] ∧ ∃ A, a.eval x = .slice A 0 0) ∨ ∃ id, l = [id] ∧ s.hp id = .arr T e xs ∧ a.eval x = ρ id := by
        cases hx : rho X s.env t x with
        | nilv T' e' =>
          rw [hx] at hl rx
          simp only [appLeft] at hl
          split at hl
          · cases hl
            obtain ⟨A, ee⟩ := RC_scalar rx rfl rfl (by simp)
            exact .inl ⟨rfl, rfl, A, by simpa using ee⟩
          · cases hl
        | sref id ix p =>
          rw [hx] at hl rx
          cases ix with
          | some _ => simp [appLeft] at hl
          | none =>
            cases p with
            | cons _ _ => simp [appLeft] at hl
            | nil =>
              simp only [appLeft] at hl
              cases hq : hp id with
              | arr T' e' zs =>
                rw [hq] at hl; simp only at hl
                cases hcs : cst (.sl T' e') (.sl T e) zs with
                | none => rw [hcs] at hl; cases hl
                | some q =>
                  rw [hcs] at hl
                  obtain ⟨ee, he⟩ := cst_some hcs
                  cases ee; cases hl; subst he
                  obtain ⟨_, _, ee, _⟩ := RC_scalar rx rfl rfl (by simp)
                  exact .inr ⟨id, rfl, hle.get hq (by simp), by simpa using ee⟩
              | _ => rw [hq] at hl; cases hl
        | _ => rw [hx] at hl; cases hl
      have hbig : xs.length + ys.length ≤ 4294967296 := hc
      have hzl : z.cells.size = e.size := by
        have := VR_cells hzc (Ow_ones (w := w) (zero_Ow e (fun _ => False)))
        rw [← zc_len e, ← this]; simp
      -- growing: a new row
      have grow : ∀ (A : Option Addr) (cap : Nat) (olds : List Value), a.eval x = .slice A xs.length cap → cap < xs.length + ys.length → olds.length = xs.length * e.size →
          (Builtin.firstCells i.size xs.length (.slice A xs.length cap)).run P w.drew = .ok olds.toArray w.drew →
          OwL (fun x c G => Ow w e x c G) e.size xs olds (fun b => ∃ id ∈ l, φ id b) →
          Does P X o w st ρ φ a s ⟨decide (xs.length + ys.length ≤ BIG), .sref d none [], [(d, .arr T e (xs ++ ys))], l ++ m, []⟩ := by
        intro A cap olds hv hlt hol hfirst hOl
        have hrun := run_append_grow_src (P := P) w t t o.type T i z hu hi hz A xs.length cap olds hfirst (a.eval y) ys.length news hsrc hlt (by omega)
          (growslice_fits hlt (by calc (xs.length + ys.length) * i.bytes ≤ 4294967296 * 32768 := Nat.mul_le_mul hbig hib
                                    _ ≤ 140737488355328 := by decide))
        rw [← hv] at hrun
        have hge := grownCap_ge w (xs.length + ys.length) cap T
        have hle2 := grownCap_le_maxLen w (xs.length + ys.length) cap T (by unfold maxLen; omega)
        generalize grownCap w (xs.length + ys.length) cap T = nc at hrun hge hle2
        have hkeep : ∀ k, k < w.heap.size → (w.drew.alloc (.cells ((olds ++ news).toArray ++ Builtin.zeroCells z.cells (nc - (xs.length + ys.length))) T)).heap[k]? = w.heap[k]? := fun k hk => heap_alloc_old w.drew _ k hk
        have hsize : (w.drew.alloc (.cells ((olds ++ news).toArray ++ Builtin.zeroCells z.cells (nc - (xs.length + ys.length))) T)).heap.size = w.heap.size + 1 := by simp
        refine does_make (F := fun b => b = w.heap.size ∨ ∃ id ∈ l ++ m, φ id b) h hdst hfree hd h5 (hexec hrun) rfl rfl rfl (fun b hb _ => hkeep b hb) (by omega) ?_ ?_ _
        · rintro b (rfl | ⟨id, hid, hb⟩)
          · exact ⟨.inr (Nat.le_refl _), by omega⟩
          · exact ⟨.inl ⟨id, hid, hb⟩, by have := (h.lt id b hb).1; omega⟩
        · refine .inr ⟨w.heap.size, nc, _, fun b => ∃ id ∈ l ++ m, φ id b, ?_, .inl rfl, ?_, fun b hb => .inr hb, heap_alloc_new w.drew _, by simp; omega, hle2, ?_, ?_⟩
          · simp
          · rintro ⟨id, _, hb⟩; have := (h.lt id _ hb).1; omega
          · simp only [Array.size_append, List.size_toArray, List.length_append, size_zeroCells, hzl, hol, hnl]
            rw [← Nat.add_mul, ← Nat.add_mul]; congr 1; omega
          · have h1 := OwL_mono (R' := fun x c G => Ow (w.drew.alloc (.cells ((olds ++ news).toArray ++ Builtin.zeroCells z.cells (nc - (xs.length + ys.length))) T)) e x c G)
              (fun x c G hG hx => Ow_world (fun b hb => hkeep b (by obtain ⟨id, _, hb⟩ := hG b hb; exact (h.lt id b hb).1)) hx) hOl
            have h2 := hrow (w.drew.alloc (.cells ((olds ++ news).toArray ++ Builtin.zeroCells z.cells (nc - (xs.length + ys.length))) T)) (fun id _ b hb => hkeep b (h.lt id b hb).1)
            have h3 := OwL_append (F := fun b => ∃ id ∈ l ++ m, φ id b) h1 h2 hol (fun b ⟨i1, hi1, hb1⟩ ⟨i2, hi2, hb2⟩ => by
              have := h.dj i1 i2 b hb1 hb2; subst this
              exact hnd'.2.2 i1 hi1 i1 hi2 rfl) (fun b ⟨i1, hi1, hb1⟩ => ⟨i1, by simp [hi1], hb1⟩) (fun b ⟨i1, hi1, hb1⟩ => ⟨i1, by simp [hi1], hb1⟩)
            refine OwL_prefix h3 (fun k hk => ?_)
            simp only [Array.toList_append]
            rw [List.getElem?_append_left]
            simp only [List.length_append, hol, hnl, ← Nat.add_mul]
            simpa using hk
      rcases hleft with ⟨rfl, rfl, A, hv⟩ | ⟨id, rfl, hob, hv⟩
      · by_cases hy0 : ys = []
        · subst hy0
          have hn0 : news = [] := List.eq_nil_of_length_eq_zero (by simpa using hnl)
          subst hn0
          have hrun := run_append_zero (ty := o.type) hu hi (A := A) hsrc
          rw [← hv] at hrun
          exact does_make (F := fun b => ∃ id ∈ [] ++ m, φ id b) h hdst hfree hd h5 (hexec hrun) rfl rfl rfl (fun _ _ _ => rfl) (Nat.le_refl _)
            (fun b ⟨id, hid, hb⟩ => ⟨.inl ⟨id, hid, hb⟩, (h.lt id b hb).1⟩) (.inl ⟨rfl, A, by rw [hv]⟩) _
        · have hpos : 0 < ys.length := List.length_pos_iff.2 hy0
          refine grow A 0 [] hv (by simp; omega) (by simp) ?_ trivial
          cases A with
          | none => exact run_firstCells_none w.drew _ _ _ _
          | some ad => simp [Builtin.firstCells, loadCells, loadCellsFrom]
      · have hob' := h.ob id
        rw [hob] at hob'
        rcases hob' with ⟨rfl, A, hA'⟩ | ⟨b, cap, arr, F', hA', g1, g2, g3, g4, g5, g6, g7, g8⟩
        · have hA' : ρ id = .slice A 0 0 := by simpa using hA'
          by_cases hy0 : ys = []
          · subst hy0
            have hn0 : news = [] := List.eq_nil_of_length_eq_zero (by simpa using hnl)
            subst hn0
            have hrun := run_append_zero (ty := o.type) hu hi (A := A) hsrc
            rw [← hA', ← hv] at hrun
            exact does_make (F := fun b => ∃ j ∈ [id] ++ m, φ j b) h hdst hfree hd h5 (hexec hrun) rfl rfl rfl (fun _ _ _ => rfl) (Nat.le_refl _)
              (fun b ⟨j, hj, hb⟩ => ⟨.inl ⟨j, hj, hb⟩, (h.lt j b hb).1⟩) (.inl ⟨rfl, A, by rw [hv, hA']⟩) _
          · have hpos : 0 < ys.length := List.length_pos_iff.2 hy0
            refine grow A 0 [] (by rw [hv, hA']; rfl) (by simp; omega) (by simp) ?_ trivial
            cases A with
            | none => exact run_firstCells_none w.drew _ _ _ _
            | some ad => simp [Builtin.firstCells, loadCells, loadCellsFrom]
        · have hA' : ρ id = .slice (some ⟨b, 0, none⟩) xs.length cap := by simpa using hA'
          obtain ⟨o1, o2⟩ := OwL_ones (Ow_R w e) g8
          by_cases hroom : xs.length + ys.length ≤ cap
          · have hfit : xs.length * i.size + news.length ≤ arr.size := by
              rw [his, hnl, g7, ← Nat.add_mul]; exact Nat.mul_le_mul_right _ hroom
            have hrun := run_append_room_row (ty := o.type) (sLen := xs.length) (sCap := cap) hu hi g4 hsrc hroom hfit
            rw [← hA', ← hv] at hrun
            rw [his] at hrun hfit
            have hkeep : ∀ k, k ≠ b → (w.setRow b (patch arr.toList (xs.length * e.size) news).toArray).heap[k]? = w.heap[k]? := fun k hk => setRow_other w b k _ hk
            have hfit' : xs.length * e.size + news.length ≤ arr.toList.length := by simpa using hfit
            refine does_make (F := fun c => ∃ j ∈ [id] ++ m, φ j c) h hdst hfree hd h5 (hexec hrun) rfl rfl rfl (fun k hk hn => hkeep k (fun e => hn id (by simp) (e ▸ g1))) (by simp) ?_ ?_ _
            · rintro c ⟨j, hj, hb⟩
              exact ⟨.inl ⟨j, hj, hb⟩, by simpa using (h.lt j c hb).1⟩
            · refine .inr ⟨b, cap, _, fun c => (F' c) ∨ ∃ j ∈ m, φ j c, by simp, ⟨id, by simp, g1⟩, ?_, ?_, setRow_heap w b _ _ T _ g4, by simpa using hroom, g6, ?_, ?_⟩
              · rintro (hF | ⟨j, hj, hb⟩)
                · exact g2 hF
                · have := h.dj id j b g1 hb; subst this
                  exact hnd'.2.2 id (by simp) id hj rfl
              · rintro c (hF | ⟨j, hj, hb⟩)
                · exact ⟨id, by simp, g3 c hF⟩
                · exact ⟨j, by simp [hj], hb⟩
              · simp only [List.size_toArray, patch_len hfit', Array.length_toList, g7]
              · have hne : ∀ c, (F' c ∨ ∃ j ∈ m, φ j c) → c ≠ b := by
                  rintro c (hF | ⟨j, hj, hb⟩) rfl
                  · exact g2 hF
                  · have := h.dj id j c g1 hb; subst this
                    exact hnd'.2.2 id (by simp) id hj rfl
                have h1 := OwL_mono (R' := fun x c G => Ow (w.setRow b (patch arr.toList (xs.length * e.size) news).toArray) e x c G)
                  (fun x c G hG hx => Ow_world (fun q hq => hkeep q (hne q (.inl (hG q hq)))) hx) g8
                have h2 := hrow (w.setRow b (patch arr.toList (xs.length * e.size) news).toArray) (fun j hj q hq => hkeep q (hne q (.inr ⟨j, hj, hq⟩)))
                have h1' := OwL_prefix (cs' := arr.toList.take (xs.length * e.size)) h1 (fun k hk => by rw [List.getElem?_take, if_pos hk])
                have h3 := OwL_append (F := fun c => (F' c) ∨ ∃ j ∈ m, φ j c) h1' h2 (by rw [List.length_take]; omega) (fun q hq ⟨j, hj, hb⟩ => by
                  have := h.dj id j q (g3 q hq) hb; subst this
                  exact hnd'.2.2 id (by simp) id hj rfl) (fun q hq => .inl hq) (fun q hq => .inr hq)
                refine OwL_prefix h3 (fun k hk => ?_)
                have : (patch arr.toList (xs.length * e.size) news).toArray.toList = (arr.toList.take (xs.length * e.size) ++ news) ++ arr.toList.drop (xs.length * e.size + news.length) := by simp [patch]
                rw [this, List.getElem?_append_left]
                rw [List.length_append, List.length_take, hnl]
                rw [List.length_append, Nat.add_mul] at hk
                omega
          · refine grow _ cap (arr.toList.take (xs.length * e.size)) (by rw [hv, hA']) (by omega) (by rw [List.length_take]; omega) ?_ ?_
            · rw [his]
              exact run_firstCells_some w.drew e.size xs.length _ _ _ _ (by rw [List.length_take]; omega) (fun j u hj => by
                rw [add_at]
                have := slice_cells (o := 0) (sz := xs.length * e.size) g4 j u (by simpa using hj)
                simpa using this)
            · have := OwL_up (F' := fun c => ∃ j ∈ [id], φ j c) (fun c hc => ⟨id, by simp, g3 c hc⟩) g8
              exact OwL_prefix this (fun k hk => by rw [List.getElem?_take, if_pos hk])

end
end Go.Vm
