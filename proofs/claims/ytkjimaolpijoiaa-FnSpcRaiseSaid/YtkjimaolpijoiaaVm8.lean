/- Single operations that make memory or turn it: variables, struct and slice literals, stores. -/
import Derived.Test.YtkjimaolpijoiaaVm7
set_option linter.unusedVariables false
set_option linter.unusedSimpArgs false
namespace Go.Vm

section
variable {P : Program} {X : Ctx} {w : World} {st : Blks} {ρ : Nat → Value} {φ : Nat → Blks} {n : Nat} {a : Act} {s : St} {o : Oper} {hp : Nat → Ob}

/-- An object that stays, in a world that keeps its memory. -/
theorem Sim.compat {w' : World} (h : Sim w st ρ φ n a s) {id : Nat} (hid : s.hp id ≠ .none) {r' : Value} (hr : r' = ρ id)
    (hφ : ∀ b, φ id b → w'.heap[b]? = w.heap[b]?) (nst : Bool) : Compat w w' (s.hp id) (s.hp id) (ρ id) r' nst := by
  refine ⟨hr, ?_, fun _ i p b o hp _ => ?_⟩
  · revert hid; cases s.hp id <;> intro hid <;> first | exact absurd rfl hid | rfl | exact ⟨rfl, rfl, Nat.le_refl _⟩
  · obtain ⟨T, el, xs, sh, l, c, h4, h5, h6, h7, _⟩ := hp
    have ho := h.ob id
    rw [h4] at ho
    rcases ho with ⟨rfl, A, hA⟩ | ⟨b', cap, arr, F', hA, hF, _⟩
    · simp at h7
    · rw [h5] at hA; cases hA
      exact cell_of_blk (hφ _ hF)

theorem does_newbox {d : Nat} {T : TypeId} {S : Sh} {v : AV} {cs : List Value} (h : Sim w st ρ φ X.n a s) (hdst : o.dst = some d) (hfree : s.hp d = .none) (hd : dstOk X o.dst = true) (h5 : d % 10000 < 5000)
    (hrun : (execOp a.eval o).run P w = .ok (.value (.pointer (some ⟨w.heap.size, 0, none⟩))) (w.alloc (.cells cs.toArray T)))
    (hF : Fit s.hp S v) (hR : RC w st ρ s.hp v cs) (hl : ∀ id ∈ v.ids, s.hp id ≠ .none) (c : Bool) :
    Does P X o w st ρ φ a s ⟨c, .ptr d none [], [(d, .box S v)], [], []⟩ := by
  have hold : ∀ b, b < w.heap.size → (w.alloc (.cells cs.toArray T)).heap[b]? = w.heap[b]? := fun b hb => heap_alloc_old w _ b hb
  have hsz : (w.alloc (.cells cs.toArray T)).heap.size = w.heap.size + 1 := by simp
  have hlne : ∀ id ∈ v.ids, id ≠ d := fun id hid e => hl id hid (e ▸ hfree)
  have hφd : ∀ b, ¬ φ d b := by have := h.ob d; rw [hfree] at this; exact this
  have hm : Sim (w.alloc (.cells cs.toArray T)) st (Go.Vm.upd ρ d (.pointer (some ⟨w.heap.size, 0, none⟩))) (fun id b => if id = d then b = w.heap.size else φ id b) X.n a ⟨s.env, updL s.hp [(d, .box S v)]⟩ := by
    refine h.upd (by simp) (fun _ h => h) (fun b hb => hold b (h.stlt b hb)) (fun id hid => ?_) (by simp) (fun q hq => ?_) (fun _ => true) (fun q hq hne => ?_) (by simp) (fun id b hb => ?_) (fun i j b h1 h2 => ?_)
      (fun b hb => by have := h.stlt b hb; omega) (fun q hq id hid => ?_)
    · have hne : id ≠ d := by simpa using hid
      exact ⟨upd_ne _ _ hne, by funext b; simp [hne], fun b hb => hold b (h.lt id b hb).1⟩
    · simp at hq; subst hq
      refine ⟨w.heap.size, cs.toArray, T, upd_same _ _ _, by simp, heap_alloc_new w _, ?_, ?_⟩
      · refine Fit_change (fun id hid T e xs he => ⟨xs, ?_⟩) hF
        show Go.Vm.upd s.hp d _ id = _
        rw [upd_ne _ _ (hlne id hid)]; exact he
      · refine RC_change (fun _ h => h) (fun b hb => hold b (h.stlt b hb)) (fun id hid => ?_) hR
        have e1 : updL s.hp [(d, .box S v)] id = s.hp id := upd_ne _ _ (hlne id hid)
        rw [e1]
        exact h.compat (hl id hid) (upd_ne _ _ (hlne id hid)) (fun b hb => hold b (h.lt id b hb).1) _
    · simp at hq; subst hq; exact absurd hfree hne
    · by_cases hid : id = d
      · simp only [hid, if_true] at hb; subst hb
        exact ⟨by omega, fun hst => by have := h.stlt _ hst; omega⟩
      · simp only [hid, if_false] at hb
        exact ⟨by have := (h.lt id b hb).1; omega, (h.lt id b hb).2⟩
    · by_cases hi : i = d <;> by_cases hj : j = d
      · rw [hi, hj]
      · simp only [hi, if_true] at h1; simp only [hj, if_false] at h2
        have := (h.lt j b h2).1; omega
      · simp only [hj, if_true] at h2; simp only [hi, if_false] at h1
        have := (h.lt i b h1).1; omega
      · simp only [hi, hj, if_false] at h1 h2
        exact h.dj i j b h1 h2
    · simp at hq; subst hq
      show Go.Vm.upd s.hp d _ id ≠ _
      rw [upd_ne _ _ (hlne id hid)]; exact hl id hid
  refine ⟨_, _, _, st, _, _, hrun, .inl rfl, hm.put o.dst _ (.ptr d none []) (fun q hq => ?_) ?_ ?_, ?_⟩
  · rw [hq] at hd; simpa [dstOk, Nat.blt_eq] using hd
  · refine RV_scalar (av := .ptr d none []) ⟨w.heap.size, 0, ⟨S, S, .inl ⟨v, upd_same _ _ _⟩, upd_same _ _ _, sub_nil _, (off_nil S).symm⟩, rfl⟩ rfl rfl
  · intro id hid
    simp [AV.ids] at hid; subst hid
    show Go.Vm.upd _ id _ id ≠ _; rw [upd_same]; simp
  · refine ⟨rfl, rfl, rfl, by omega, fun b hb hn => hold b hb, fun _ h => h, fun _ h => .inl h, fun id b hb => ?_, fun id hp5 hn => ?_⟩
    · by_cases hid : id = d
      · simp only [hid, if_true] at hb; exact .inr (by omega)
      · simp only [hid, if_false] at hb; exact .inl ⟨id, hb⟩
    · have hne : id ≠ d := fun e => by rw [e] at hp5; omega
      have hn' : Go.Vm.upd s.hp d (.box S v) id ≠ .none := by
        have : (s.app o.dst ⟨c, .ptr d none [], [(d, .box S v)], [], []⟩).hp id = Go.Vm.upd s.hp d (.box S v) id := by rw [hdst]; rfl
        rw [← this]; exact hn
      rw [upd_ne _ _ hne] at hn'
      exact ⟨hn', upd_ne _ _ hne⟩

theorem does_alloc (hA : TyAll P X) {T : TypeId} (ho : o.op = .alloc T) (h : Sim w st ρ φ X.n a s) {d : Nat} (hdst : o.dst = some d) (hfree : s.hp d = .none) (hd : dstOk X o.dst = true) (h5 : d % 10000 < 5000)
    {S : Sh} {nf : Nat} (hT : X.ty T = some (S, nf)) : Does P X o w st ρ φ a s ⟨true, .ptr d none [], [(d, .box S (zeroAV S))], [], []⟩ := by
  obtain ⟨z, hz, hzr⟩ := (hA _ _ _ hT).zero
  obtain ⟨hF, hR⟩ := zeroAV_RC (w := w) (st := st) (ρ := ρ) (O := s.hp) S
  have hc := VR_cells hz (RC_ones hR)
  refine does_newbox (T := T) (cs := S.zc) h hdst hfree hd h5 ?_ hF hR (fun id hid => absurd hid (zeroAV_ids S id)) _
  rw [← hc]
  simp [execOp, ho, Instr.alloc, hzr, newVar, newRow]

theorem does_box (hA : TyAll P X) {T : TypeId} {x : Operand} (ho : o.op = .box T x) (h : Sim w st ρ φ X.n a s) (hle : Le hp s.hp) {d : Nat} (hdst : o.dst = some d) (hfree : s.hp d = .none) (hd : dstOk X o.dst = true) (h5 : d % 10000 < 5000)
    {S : Sh} (hfit : fits hp S (rho X s.env T x) = true) : Does P X o w st ρ φ a s ⟨true, .ptr d none [], [(d, .box S (rho X s.env T x))], [], []⟩ := by
  obtain ⟨hF, hnu⟩ := fits_Fit hle hfit
  obtain ⟨cs, hv, hR⟩ := RC_of_RV hF hnu (opnd_RV h T x)
  have hc := VR_cells hv (RC_ones hR)
  refine does_newbox (T := T) (cs := cs) h hdst hfree hd h5 ?_ hF hR (opnd_ids h T x) _
  rw [← hc]
  simp [execOp, ho, Instr.box, newVar, newRow]

/-! ### Literals -/
theorem patch_cons {cs l : List Value} {o : Nat} {c : Value} (h : o < cs.length) : patch (cs.set o c) (o + 1) l = patch cs o (c :: l) := by
  unfold patch
  rw [List.set_eq_take_append_cons_drop, if_pos h]
  have h1 : (cs.take o ++ c :: cs.drop (o + 1)).take (o + 1) = cs.take o ++ [c] := by
    rw [List.take_append, List.take_of_length_le (by simp; omega), List.length_take, Nat.min_eq_left (by omega)]
    have : o + 1 - o = 1 := by omega
    rw [this]; rfl
  have h2 : (cs.take o ++ c :: cs.drop (o + 1)).drop (o + 1 + l.length) = cs.drop (o + (l.length + 1)) := by
    rw [List.drop_append, List.drop_of_length_le (by simp; omega), List.length_take, Nat.min_eq_left (by omega)]
    have : o + 1 + l.length - o = l.length + 1 := by omega
    rw [this, List.drop_succ_cons, List.drop_drop, List.nil_append]
    congr 1; omega
  rw [h1, h2]; simp

theorem fold_patch (off : Nat) : ∀ (l : List Value) (k : Nat) (cells : Array Value), off + k + l.length ≤ cells.size →
    (l.zipIdx k).foldl (fun cs (x : Value × Nat) => cs.setIfInBounds (off + x.2) x.1) cells = (patch cells.toList (off + k) l).toArray
  | [], k, cells, h => by simp [patch]
  | c :: l, k, cells, h => by
    simp only [List.length_cons] at h
    rw [List.zipIdx_cons, List.foldl_cons, fold_patch off l (k + 1) _ (by simp; omega)]
    have : (cells.setIfInBounds (off + k) c).toList = cells.toList.set (off + k) c := by simp
    rw [this, ← Nat.add_assoc, patch_cons (by simp; omega)]

theorem fill_step {place : Nat → Option (Nat × Nat)} {cells : Array Value} {i : Nat} {v : Value} {rest : List (Nat × Value)} {off sz : Nat} (hp : place i = some (off, sz)) (hv : v.cells.size = sz) (hf : off + sz ≤ cells.size) :
    Instr.fill place cells ((i, v) :: rest) = Instr.fill place (patch cells.toList off v.cells.toList).toArray rest := by
  have h1 : ¬ (cells.size < off + v.cells.size) := by omega
  simp only [Instr.fill, hp]
  rw [if_neg (by simp [hv]; omega)]
  congr 1
  rw [← Array.foldl_toList]
  have := fold_patch off v.cells.toList 0 cells (by simp; omega)
  simp only [Nat.add_zero] at this
  rw [← this]
  simp [Array.toList_zipIdx]

/-- A struct literal, part after part. -/
theorem build_parts (hle : Le hp s.hp) (h : Sim w st ρ φ X.n a s) {S : Sh} {nf : Nat} {place : Nat → Option (Nat × Nat)} (hpl : ∀ j sh, j < nf → S.sub (fp nf j) = some sh → place j = some (S.off (fp nf j), sh.size)) :
    ∀ (ps : List (Nat × Operand)) (v v' : AV) (cs : List Value), buildAV hp S nf (ps.map fun q => (q.1, rho X s.env 0 q.2)) v = some v' → Fit s.hp S v → RC w st ρ s.hp v cs → (∀ id ∈ v.ids, s.hp id ≠ .none) →
      ∃ out, Instr.fill place cs.toArray (ps.map fun q => (q.1, a.eval q.2)) = some out ∧ Fit s.hp S v' ∧ RC w st ρ s.hp v' out.toList ∧ (∀ id ∈ v'.ids, s.hp id ≠ .none)
  | [], v, v', cs, hb, hF, hR, hl => by
    cases hb; exact ⟨cs.toArray, rfl, hF, hR, hl⟩
  | (j, x) :: ps, v, v', cs, hb, hF, hR, hl => by
    simp only [List.map_cons, buildAV] at hb
    cases hsub : S.sub (fp nf j) with
    | none => rw [hsub] at hb; cases hb
    | some sh =>
      rw [hsub] at hb; simp only at hb
      cases hcond : (fits hp sh (rho X s.env 0 x) && Nat.blt j nf)
      · rw [hcond] at hb; cases hb
      rw [hcond] at hb; simp only [cond_true] at hb
      simp only [Bool.and_eq_true, Nat.blt_eq] at hcond
      cases hset : setA v (fp nf j) (rho X s.env 0 x) with
      | none => rw [hset] at hb; cases hb
      | some u =>
        rw [hset] at hb; simp only at hb
        obtain ⟨hF1, hnu⟩ := fits_Fit hle hcond.1
        obtain ⟨cu, hv, hRu⟩ := RC_of_RV hF1 hnu (opnd_RV h 0 x)
        obtain ⟨hF2, hR2⟩ := setA_RC hF hR hsub hF1 hRu hset
        have hcu := VR_cells hv (RC_ones hRu)
        have hlu := RC_len hF1 hRu
        have hlc := RC_len hF hR
        obtain ⟨out, g1, g2, g3, g4⟩ := build_parts hle h hpl ps u v' _ hb hF2 hR2 (fun id hid => by
          rcases setA_ids hset hid with h1 | h1
          · exact hl id h1
          · exact opnd_ids h 0 x id h1)
        refine ⟨out, ?_, g2, g3, g4⟩
        rw [List.map_cons, fill_step (hpl j sh hcond.2 hsub) (by rw [← hlu, ← hcu]; simp) (by simp only [List.size_toArray]; rw [hlc]; exact sub_size hsub)]
        rw [hcu]; exact g1

theorem run_places {fs : List Field} {f : Field → Nat} (hf : ∀ x ∈ fs, (sizeOf x.type).run P w = .ok (f x) w) :
    (fs.mapM (m := Sem) fun x => do pure (x.offset, ← sizeOf x.type)).run P w = .ok (fs.map fun x => (x.offset, f x)) w := by
  induction fs with
  | nil => simp
  | cons x fs ih =>
    have ih := ih (fun y hy => hf y (by simp [hy]))
    simp only [Sem.run_bind, List.mapM_cons, hf x (by simp)] at ih ⊢
    simp at ih ⊢
    rw [ih]; rfl

theorem does_build (hA : TyAll P X) {T : TypeId} {parts : Array (Nat × Operand)} (ho : o.op = .build T parts) (h : Sim w st ρ φ X.n a s) (hd : dstOk X o.dst = true) (hle : Le hp s.hp) {S : Sh} {nf : Nat} (hT : X.ty T = some (S, nf)) {v : AV}
    (hb : buildAV hp S nf (parts.toList.map fun q => (q.1, rho X s.env 0 q.2)) (zeroAV S) = some v) (hpair : S.isPair = true) : Does P X o w st ρ φ a s (.pure v) := by
  have hTy := hA _ _ _ hT
  obtain ⟨z, hz, hzr⟩ := hTy.zero
  obtain ⟨hF, hR⟩ := zeroAV_RC (w := w) (st := st) (ρ := ρ) (O := s.hp) S
  have hc := VR_cells hz (RC_ones hR)
  obtain ⟨d, hu, hdd⟩ := hTy.und
  cases S with
  | pair p q =>
    obtain ⟨fs, rfl, ⟨h2, hfs⟩, hfl⟩ := hdd
    have hsz : ∀ x ∈ fs.toList, ∃ sh m, X.ty x.type = some (sh, m) := fun x hx => by
      obtain ⟨j, hj, e⟩ := List.getElem_of_mem hx
      obtain ⟨F, sub, m, g1, _, _, g4⟩ := hfl j (hfs ▸ (by simpa using hj))
      have : fs[j]? = some x := by rw [← Array.getElem?_toList, List.getElem?_eq_getElem hj, e]
      rw [this] at g1; cases g1; exact ⟨_, _, g4⟩
    let f : Field → Nat := fun x => match X.ty x.type with | some (sh, _) => sh.size | none => 0
    have hpl := run_places (P := P) (w := w) (fs := fs.toList) (f := f) (fun x hx => by
      obtain ⟨sh, m, e⟩ := hsz x hx
      have := (hA _ _ _ e).size w
      simp only [f, e]; exact this)
    have hpl' : (fs.mapM (m := Sem) fun x => do pure (x.offset, ← sizeOf x.type)).run P w = .ok (fs.map fun x => (x.offset, f x)) w := by
      rw [Array.mapM_eq_mapM_toList]
      simp at hpl ⊢
      rw [hpl]
      have : (fs.toList.map fun x => (x.offset, f x)).toArray = fs.map fun x => (x.offset, f x) := by apply Array.ext'; simp
      simp [Result.andThen, this]
    obtain ⟨out, g1, g2, g3, g4⟩ := build_parts hle h (place := fun j => (fs.map fun x => (x.offset, f x))[j]?) (fun j sh hj hsub => by
        obtain ⟨F, sub, m, g1, g2, g3, g4⟩ := hfl j hj
        rw [hsub] at g2; cases g2
        simp [g1, g3, f, g4]) parts.toList _ _ _ hb hF hR (fun id hid => absurd hid (zeroAV_ids _ id))
    refine does_pure h hd (v := .agg out) ?_ (RV_of_RC g2 g3 (.inl ⟨rfl, by simp⟩)) g4 _
    have hzc : z.cells = (Sh.zc (.pair p q)).toArray := by rw [← hc]
    simp at hpl' g1
    simp [execOp, ho, Instr.build, hzr, hzc, run_underlying hu, hpl', g1]
  | _ => simp [Sh.isPair] at hpair

end
end Go.Vm
