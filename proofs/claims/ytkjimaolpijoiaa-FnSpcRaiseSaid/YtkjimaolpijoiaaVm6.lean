/- Single operations, further: addresses, parts, slices of what is read alone, conversions. -/
import Derived.Test.YtkjimaolpijoiaaVm5
import Derived.Laws.Slices
import Derived.Laws.BytesString
set_option linter.unusedVariables false
set_option linter.unusedSimpArgs false
namespace Go.Vm

section
variable {P : Program} {X : Ctx} {w : World} {st : Blks} {ρ : Nat → Value} {φ : Nat → Blks} {a : Act} {s : St} {o : Oper} {hp : Nat → Ob}

/-! ### Loads -/
theorem sub_append : ∀ {S s t : Sh} {p q : List Bool}, S.sub p = some s → s.sub q = some t → S.sub (p ++ q) = some t ∧ S.off (p ++ q) = S.off p + s.off q
  | S, s, t, [], q, h1, h2 => by rw [sub_nil] at h1; cases h1; simp [off_nil, h2]
  | .pair a b, s, t, false :: p, q, h1, h2 => by
    have := sub_append (S := a) (p := p) (by simpa [Sh.sub] using h1) h2
    exact ⟨by simpa [Sh.sub] using this.1, by simpa [Sh.off] using this.2⟩
  | .pair a b, s, t, true :: p, q, h1, h2 => by
    have := sub_append (S := b) (p := p) (by simpa [Sh.sub] using h1) h2
    exact ⟨by simpa [Sh.sub] using this.1, by simp only [List.cons_append, Sh.off, this.2]; omega⟩
  | .int _, _, _, _ :: _, _, h, _ => by simp [Sh.sub] at h
  | .bool, _, _, _ :: _, _, h, _ => by simp [Sh.sub] at h
  | .str, _, _, _ :: _, _, h, _ => by simp [Sh.sub] at h
  | .sl _ _, _, _, _ :: _, _, h, _ => by simp [Sh.sub] at h
  | .unit, _, _, _ :: _, _, h, _ => by simp [Sh.sub] at h

theorem getT_append : ∀ {S s t : Sh} {p q : List Bool} {x : S.den} {y : s.den} {z : t.den}, getT S x p = some ⟨s, y⟩ → getT s y q = some ⟨t, z⟩ → getT S x (p ++ q) = some ⟨t, z⟩
  | S, s, t, [], q, x, y, z, h1, h2 => by rw [getT_nil] at h1; cases h1; simpa using h2
  | .pair a b, s, t, false :: p, q, x, y, z, h1, h2 => by simp only [List.cons_append, getT] at h1 ⊢; exact getT_append h1 h2
  | .pair a b, s, t, true :: p, q, x, y, z, h1, h2 => by simp only [List.cons_append, getT] at h1 ⊢; exact getT_append h1 h2
  | .int _, _, _, _ :: _, _, _, _, _, h, _ => by simp [getT] at h
  | .bool, _, _, _ :: _, _, _, _, _, h, _ => by simp [getT] at h
  | .str, _, _, _ :: _, _, _, _, _, h, _ => by simp [getT] at h
  | .sl _ _, _, _, _ :: _, _, _, _, _, h, _ => by simp [getT] at h
  | .unit, _, _, _ :: _, _, _, _, _, h, _ => by simp [getT] at h

/-- The tree of references to a part of an element. -/
theorem treeAt_RC {id : Nat} {i : Int} {T : TypeId} {e : Sh} {xs : List e.den} {b l c : Nat} (hO : s.hp id = .arr T e xs) (hr : ρ id = .slice (some ⟨b, 0, none⟩) l c) (h0 : 0 ≤ i) (hi : i.toNat < xs.length) :
    ∀ {sh : Sh} {y : sh.den} {p : List Bool} {cs : List Value} {F : Blks}, getT e (rdL xs i) p = some ⟨sh, y⟩ → Ow w sh y cs F →
      (∀ j v, cs[j]? = some v → w.cell? ⟨b, i.toNat * e.size + e.off p + j, none⟩ = some v) →
      Fit s.hp sh (treeAt id i sh y p) = Fit s.hp sh (treeAt id i sh y p) ∧ RC w st ρ s.hp (treeAt id i sh y p) cs := by
  intro sh
  induction sh with
  | int k => intro y p cs F hg ho hc; exact ⟨rfl, ho⟩
  | bool => intro y p cs F hg ho hc; exact ⟨rfl, ho⟩
  | str => intro y p cs F hg ho hc; exact ⟨rfl, ho⟩
  | unit => intro y p cs F hg ho hc; exact ⟨rfl, ho⟩
  | sl T' e' =>
    intro y p cs F hg ho hc
    refine ⟨rfl, ?_⟩
    have hl : cs.length = 1 := Ow_len ho
    match cs, hl with
    | [v], _ =>
      have hv := hc 0 v rfl
      simp only [Nat.add_zero] at hv
      exact ⟨b, _, v, ⟨T, e, xs, _, l, c, hO, hr, h0, hi, getT_sub hg, rfl⟩, fun T0 e0 xs0 h => by rw [hO] at h; cases h; exact ⟨T', e', getT_sub hg⟩, hv, rfl, Ow_ones ho v (by simp)⟩
  | pair p1 p2 ih1 ih2 =>
    intro y p cs F hg ho hc
    obtain ⟨c1, c2, F1, F2, rfl, _, _, _, h1, h2⟩ := ho
    have hs := getT_sub hg
    have s1 := sub_append hs (show (Sh.pair p1 p2).sub [false] = some p1 by simp [Sh.sub, sub_nil])
    have s2 := sub_append hs (show (Sh.pair p1 p2).sub [true] = some p2 by simp [Sh.sub, sub_nil])
    have g1 := getT_append hg (show getT (.pair p1 p2) y [false] = some ⟨p1, y.1⟩ by simp [getT, getT_nil])
    have g2 := getT_append hg (show getT (.pair p1 p2) y [true] = some ⟨p2, y.2⟩ by simp [getT, getT_nil])
    refine ⟨rfl, mkPair_RC (ih1 g1 h1 ?_).2 (ih2 g2 h2 ?_).2⟩
    · intro j v hv
      have := hc j v (by rw [List.getElem?_append_left (List.getElem?_eq_some_iff.1 hv).1]; exact hv)
      rw [s1.2]; simpa [Sh.off, off_nil] using this
    · intro j v hv
      have := hc (c1.length + j) v (by rw [List.getElem?_append_right (by omega)]; simpa using hv)
      rw [s2.2]
      have e1 : (Sh.pair p1 p2).off [true] = c1.length := by simp [Sh.off, off_nil, Ow_len h1]
      rw [e1]; rw [← this]; congr 2; omega

theorem treeAt_agg : ∀ {sh : Sh} {y : sh.den} {id : Nat} {i : Int} {p : List Bool}, (treeAt id i sh y p).agg = sh.isPair ∧ (treeAt id i sh y p).isTup = false ∧ treeAt id i sh y p ≠ .unk := by
  intro sh
  cases sh with
  | pair a b =>
    intro y id i p
    simp only [treeAt, mkPair]
    split <;> exact ⟨rfl, rfl, by simp⟩
  | _ => intro y id i p; exact ⟨rfl, rfl, by simp [treeAt]⟩

theorem treeAt_ids : ∀ {sh : Sh} {y : sh.den} {id : Nat} {i : Int} {p : List Bool} {j : Nat}, j ∈ (treeAt id i sh y p).ids → j = id := by
  intro sh
  induction sh with
  | pair a b ih1 ih2 =>
    intro y id i p j h
    rcases mkPair_ids h with h | h
    · exact ih1 h
    · exact ih2 h
  | sl T e => intro y id i p j h; simpa [treeAt, AV.ids] using h
  | _ => intro y id i p j h; simp [treeAt, AV.ids] at h

theorem does_load (hA : TyAll P X) {T : TypeId} {x : Operand} (ho : o.op = .load T x) (h : Sim w st ρ φ X.n a s) (hd : dstOk X o.dst = true) (hle : Le hp s.hp) {S : Sh} {nf : Nat} (hT : X.ty T = some (S, nf))
    {r : Res} (hr : loadAV hp S (rho X s.env 0 x) = some r) : Does P X o w st ρ φ a s r := by
  have rx := opnd_RV h 0 x
  have lx := opnd_ids h 0 x
  have hTy := hA _ _ _ hT
  cases hx : rho X s.env 0 x with
  | ptr id ix p =>
    rw [hx] at hr rx lx
    obtain ⟨b, of, hpt, e⟩ := RC_scalar rx rfl rfl (by simp)
    have e : a.eval x = .pointer (some ⟨b, of, none⟩) := by simpa using e
    cases ix with
    | none =>
      simp only [loadAV] at hr
      cases hq : hp id with
      | box S' v =>
        rw [hq] at hr; simp only at hr
        split at hr
        · rename_i hsub
          cases hg : getA v p with
          | none => rw [hg] at hr; cases hr
          | some u =>
            rw [hg] at hr; cases hr
            have hob := hle.get hq (by simp)
            have hO := h.ob id
            rw [hob] at hO
            obtain ⟨b', arr, T0, h1, h2, h3, h4, h5⟩ := hO
            obtain ⟨S2, s2, hS, hr2, hs2, rfl⟩ := hpt
            rw [hob] at hS
            rcases hS with ⟨_, hS⟩ | ⟨_, hS⟩ <;> cases hS
            rw [h1] at hr2; cases hr2
            obtain ⟨hf, hrc⟩ := getA_RC h4 h5 hsub hg
            have hlen := RC_len hf hrc
            obtain ⟨v', hv', hrun⟩ := hTy.loadVar (w := w) (b := b) (o := S'.off p) hlen (fun j v hv => slice_cells h3 j v hv)
            refine does_pure h hd (v := v') ?_ (RV_of_RC hf hrc hv') (fun j hj => h.wfh id j (by rw [hob]; exact getA_ids hg hj)) _
            simp [execOp, ho, Instr.loadAt, Instr.sureAddr, e, hrun]
        · cases hr
      | cbox S' y =>
        rw [hq] at hr; simp only at hr
        cases hg : getT S' y p with
        | none => rw [hg] at hr; cases hr
        | some q =>
          obtain ⟨t, z⟩ := q
          rw [hg] at hr; simp only at hr
          split at hr
          · rename_i ht; subst ht
            cases hr
            have hob := hle.get hq (by simp)
            have hO := h.ob id
            rw [hob] at hO
            obtain ⟨b', arr, T0, fz, h1, h2, h3, h4, h5⟩ := hO
            obtain ⟨S2, s2, hS, hr2, hs2, rfl⟩ := hpt
            rw [hob] at hS
            rcases hS with ⟨_, hS⟩ | ⟨_, hS⟩ <;> cases hS
            rw [h1] at hr2; cases hr2
            have him := Im_sub h4 hg
            obtain ⟨v', hv', hrun⟩ := hTy.loadVar (w := w) (b := b) (o := S'.off p) (Im_len him) (fun j v hv => slice_cells h3 j v hv)
            refine does_pure h hd (v := v') ?_ (RV_val him hv') (by simp [AV.ids]) _
            simp [execOp, ho, Instr.loadAt, Instr.sureAddr, e, hrun]
          · cases hr
      | _ => rw [hq] at hr; cases hr
    | some i =>
      simp only [loadAV] at hr
      cases hq : hp id with
      | arr T' e' xs =>
        rw [hq] at hr; simp only at hr
        cases hg : getT e' (rdL xs i) p with
        | none => rw [hg] at hr; cases hr
        | some q =>
          obtain ⟨t, z⟩ := q
          rw [hg] at hr; simp only at hr
          split at hr
          · rename_i ht; subst ht
            cases hr
            have hob := hle.get hq (by simp)
            obtain ⟨T2, e2, xs2, s2, l, c, g1, g2, g3, g4, g5, rfl⟩ := hpt
            rw [hob] at g1; cases g1
            obtain ⟨b', cap, arr, F1, k1, k2, k3, k4, k5, k6, k7⟩ := h.elem hob (rdL_get g4)
            rw [g2] at k1; cases k1
            obtain ⟨F2, hF2, hr3, _⟩ := Ow_sub k7 hg
            have hcells : ∀ j v, ((((arr.toList.drop (i.toNat * e'.size)).take e'.size).drop (e'.off p)).take t.size)[j]? = some v → w.cell? ⟨b, i.toNat * e'.size + e'.off p + j, none⟩ = some v := by
              intro j v hv
              rw [List.getElem?_take] at hv
              split at hv
              · rw [List.getElem?_drop] at hv
                have := slice_cells k3 _ v hv
                rw [← this]; congr 2; omega
              · cases hv
            obtain ⟨v', hv', hrun⟩ := hTy.loadVar (w := w) (b := b) (o := i.toNat * e'.size + e'.off p) (Ow_len hr3) hcells
            have hrc := (treeAt_RC (w := w) (st := st) hob g2 g3 g4 hg hr3 hcells).2
            have ha := treeAt_agg (sh := t) (y := z) (id := id) (i := i) (p := p)
            refine does_pure h hd (v := v') ?_ ?_ (fun j hj => by rw [treeAt_ids hj, hob]; simp) _
            · simp [execOp, ho, Instr.loadAt, Instr.sureAddr, e, hrun]
            · refine .inr ⟨ha.2.1, ?_⟩
              rcases hv' with ⟨hpp, hv'⟩ | ⟨hpp, hv'⟩
              · exact .inr (.inl ⟨by rw [ha.1, hpp], _, hv', by simpa using hrc⟩)
              · exact .inr (.inr ⟨by rw [ha.1, hpp], by rw [← hv']; exact hrc⟩)
          · cases hr
      | _ => rw [hq] at hr; cases hr
  | iptr t y =>
    rw [hx] at hr rx lx
    simp only [loadAV] at hr
    split at hr
    · rename_i ht; subst ht
      cases hr
      obtain ⟨b, of, cc, e, hst, him, hc⟩ := RC_scalar rx rfl rfl (by simp)
      have e : a.eval x = .pointer (some ⟨b, of, none⟩) := by simpa using e
      obtain ⟨v', hv', hrun⟩ := hTy.loadVar (w := w) (Im_len him) hc
      refine does_pure h hd (v := v') ?_ (RV_val him hv') (by simp [AV.ids]) _
      simp [execOp, ho, Instr.loadAt, Instr.sureAddr, e, hrun]
    · cases hr
  | _ => rw [hx] at hr; cases hr

/-! ### Addresses of parts -/
theorem run_fieldPlace {f : Field} {b of : Nat} (hsz : ∃ n, 0 < n ∧ (sizeOf f.type).run P w = .ok n w) : (fieldPlace ⟨b, of, none⟩ f).run P w = .ok ⟨b, of + f.offset, none⟩ w := by
  obtain ⟨n, hn, hs⟩ := hsz
  have : n ≠ 0 := by omega
  simp [fieldPlace, hs, this, add_at]

theorem does_fieldAddr (hA : TyAll P X) {T : TypeId} {x : Operand} {f : Nat} (ho : o.op = .fieldAddr T x f) (h : Sim w st ρ φ X.n a s) (hd : dstOk X o.dst = true) (hle : Le hp s.hp) {S : Sh} {nf : Nat} (hT : X.ty T = some (S, nf)) (hf : f < nf)
    {r : Res} (hr : (match rho X s.env 0 x with
      | .ptr id ix p => (match hp id with
        | .box S' _ => if S'.sub p = some S then some (Res.pure (.ptr id ix (p ++ fp nf f))) else none
        | .cbox S' _ => if S'.sub p = some S then some (.pure (.ptr id ix (p ++ fp nf f))) else none
        | .arr _ e _ => if e.sub p = some S then some (.pure (.ptr id ix (p ++ fp nf f))) else none
        | .none => none)
      | .iptr s y => if s = S then (match getT s y (fp nf f) with
        | some ⟨t, z⟩ => some (.pure (.iptr t z))
        | none => none) else none
      | _ => none) = some r) : Does P X o w st ρ φ a s r := by
  have rx := opnd_RV h 0 x
  have lx := opnd_ids h 0 x
  have hTy := hA _ _ _ hT
  obtain ⟨d, hu, hdd⟩ := hTy.und
  -- the model's fields
  obtain ⟨fs, F, sub, m, hfs, hFs, hsub, hoff, hty⟩ : ∃ (fs : Array Field) (F : Field) (sub : Sh) (m : Nat), d = .struct fs ∧ fs[f]? = some F ∧ S.sub (fp nf f) = some sub ∧ F.offset = S.off (fp nf f) ∧ X.ty F.type = some (sub, m) := by
    cases S with
    | pair p q =>
      obtain ⟨fs, rfl, _, hfl⟩ := hdd
      obtain ⟨F, sub, m, h1, h2, h3, h4⟩ := hfl f hf
      exact ⟨fs, F, sub, m, rfl, h1, h2, h3, h4⟩
    | _ => have := hTy.nfp rfl; omega
  subst hfs
  have hplace : ∀ b of, (fieldPlace ⟨b, of, none⟩ F).run P w = .ok ⟨b, of + S.off (fp nf f), none⟩ w := fun b of => by
    rw [← hoff]; exact run_fieldPlace ⟨_, (hA _ _ _ hty).pos, (hA _ _ _ hty).size w⟩
  cases hx : rho X s.env 0 x with
  | ptr id ix p =>
    rw [hx] at hr rx lx
    obtain ⟨b, of, hpt, e⟩ := RC_scalar rx rfl rfl (by simp)
    have e : a.eval x = .pointer (some ⟨b, of, none⟩) := by simpa using e
    have hrun : (execOp a.eval o).run P w = .ok (.value (.pointer (some ⟨b, of + S.off (fp nf f), none⟩))) w := by
      simp [execOp, ho, Instr.fieldAt, run_underlying hu, hFs, e, Instr.sureAddr, hplace]
    simp only at hr
    cases hq : hp id with
    | none => rw [hq] at hr; cases hr
    | box S' v =>
      rw [hq] at hr; simp only at hr
      split at hr
      · rename_i hs'
        cases hr
        have hob := hle.get hq (by simp)
        refine does_pure h hd hrun (RV_scalar (av := .ptr id ix (p ++ fp nf f)) ⟨b, _, ?_, rfl⟩ rfl rfl) (fun j hj => lx j hj) _
        cases ix with
        | none =>
          obtain ⟨S2, s2, hS, hr2, hs2, rfl⟩ := hpt
          rw [hob] at hS
          rcases hS with ⟨_, hS⟩ | ⟨_, hS⟩ <;> cases hS
          exact ⟨S', sub, .inl ⟨v, hob⟩, hr2, (sub_append hs' hsub).1, ((sub_append hs' hsub).2).symm⟩
        | some i =>
          obtain ⟨T2, e2, xs2, s2, l, c, g1, _⟩ := hpt
          rw [hob] at g1; cases g1
      · cases hr
    | cbox S' v =>
      rw [hq] at hr; simp only at hr
      split at hr
      · rename_i hs'
        cases hr
        have hob := hle.get hq (by simp)
        refine does_pure h hd hrun (RV_scalar (av := .ptr id ix (p ++ fp nf f)) ⟨b, _, ?_, rfl⟩ rfl rfl) (fun j hj => lx j hj) _
        cases ix with
        | none =>
          obtain ⟨S2, s2, hS, hr2, hs2, rfl⟩ := hpt
          rw [hob] at hS
          rcases hS with ⟨_, hS⟩ | ⟨_, hS⟩ <;> cases hS
          exact ⟨S', sub, .inr ⟨v, hob⟩, hr2, (sub_append hs' hsub).1, ((sub_append hs' hsub).2).symm⟩
        | some i =>
          obtain ⟨T2, e2, xs2, s2, l, c, g1, _⟩ := hpt
          rw [hob] at g1; cases g1
      · cases hr
    | arr T' e' xs =>
      rw [hq] at hr; simp only at hr
      split at hr
      · rename_i hs'
        cases hr
        have hob := hle.get hq (by simp)
        refine does_pure h hd hrun (RV_scalar (av := .ptr id ix (p ++ fp nf f)) ⟨b, _, ?_, rfl⟩ rfl rfl) (fun j hj => lx j hj) _
        cases ix with
        | none =>
          obtain ⟨S2, s2, hS, hr2, hs2, rfl⟩ := hpt
          rw [hob] at hS
          rcases hS with ⟨_, hS⟩ | ⟨_, hS⟩ <;> cases hS
        | some i =>
          obtain ⟨T2, e2, xs2, s2, l, c, g1, g2, g3, g4, g5, rfl⟩ := hpt
          rw [hob] at g1; cases g1
          refine ⟨T', e', xs, sub, l, c, hob, g2, g3, g4, (sub_append hs' hsub).1, ?_⟩
          rw [(sub_append hs' hsub).2]; omega
      · cases hr
  | iptr t y =>
    rw [hx] at hr rx lx
    simp only at hr
    split at hr
    · rename_i ht; subst ht
      cases hg : getT t y (fp nf f) with
      | none => rw [hg] at hr; cases hr
      | some q =>
        obtain ⟨t', z⟩ := q
        rw [hg] at hr; cases hr
        obtain ⟨b, of, cc, e, hst, him, hc⟩ := RC_scalar rx rfl rfl (by simp)
        have e : a.eval x = .pointer (some ⟨b, of, none⟩) := by simpa using e
        refine does_pure h hd (v := .pointer (some ⟨b, of + t.off (fp nf f), none⟩)) ?_ (RV_scalar (av := .iptr t' z) ⟨b, _, _, rfl, hst, Im_sub him hg, fun j v hv => ?_⟩ rfl rfl) (by simp [AV.ids]) _
        · simp [execOp, ho, Instr.fieldAt, run_underlying hu, hFs, e, Instr.sureAddr, hplace]
        · rw [List.getElem?_take] at hv
          split at hv
          · rw [List.getElem?_drop] at hv
            rw [← hc _ v hv]; congr 2; omega
          · cases hv
    · cases hr
  | _ => rw [hx] at hr; cases hr

/-! ### Elements -/
theorem toNat_lt {i : Int} {n : Nat} (h0 : 0 ≤ i) (h1 : i < (n : Int)) : i.toNat < n := by omega

theorem does_indexAddr (hA : TyAll P X) {T : TypeId} {x y : Operand} (ho : o.op = .indexAddr T x y) (h : Sim w st ρ φ X.n a s) (hd : dstOk X o.dst = true) (hle : Le hp s.hp) {E : TypeId} {el : Sh} {nf : Nat} (hT : X.ty T = some (.sl E el, nf))
    {r : Res} (hr : indexAV hp el (rho X s.env 0 x) (rho X s.env 0 y) = some r) (hc : r.c = true) : Does P X o w st ρ φ a s r := by
  have rx := opnd_RV h 0 x
  have ry := opnd_RV h 0 y
  have lx := opnd_ids h 0 x
  obtain ⟨d, hu, rfl, m, hE⟩ := (hA _ _ _ hT).und
  have hEs := (hA _ _ _ hE).size w
  unfold indexAV at hr
  cases hy : rho X s.env 0 y with
  | val t i =>
    cases t with
    | int k =>
      rw [hy] at hr ry
      have hi := int_of_RV ry
      simp only at hr
      cases hx : rho X s.env 0 x with
      | val t xs =>
        cases t with
        | sl T' e =>
          rw [hx] at hr rx lx
          simp only at hr
          split at hr
          · rename_i he; subst he
            cases hr
            simp only [Res.when, Bool.and_eq_true, decide_eq_true_eq] at hc
            obtain ⟨h0, h1⟩ := hc
            obtain ⟨A, cap, ee, hcap, hel⟩ := sl_of_RV rx
            have ee : a.eval x = .slice A xs.length cap := by simpa using ee
            have hlt : i.toNat < xs.length := toNat_lt h0 h1
            have hne : xs ≠ [] := by intro e; rw [e] at hlt; simp at hlt
            obtain ⟨b, of, rfl, hst, hcell⟩ := hel hne
            obtain ⟨cc, him, hcc⟩ := hcell i.toNat _ (rdL_get hlt)
            refine does_pure h hd (v := .pointer (some ⟨b, of + i.toNat * e.size, none⟩)) ?_ (RV_scalar (av := .iptr e (rdL xs i)) ⟨b, _, cc, rfl, hst, him, hcc⟩ rfl rfl) (by simp [AV.ids]) _
            have hlt' : i < (xs.length : Int) := h1
            simp [execOp, ho, Instr.indexAt, asIntOf, hi, run_underlying hu, ee, h0, hlt', hEs, add_at]
          · cases hr
        | _ => rw [hx] at hr; cases hr
      | sref id ix p =>
        rw [hx] at hr rx lx
        cases ix with
        | some j => simp at hr
        | none =>
          cases p with
          | cons _ _ => simp at hr
          | nil =>
            simp only at hr
            cases hq : hp id with
            | arr T' e xs =>
              rw [hq] at hr; simp only at hr
              split at hr
              · rename_i he; subst he
                cases hr
                simp only [Res.when, Bool.and_eq_true, decide_eq_true_eq] at hc
                obtain ⟨h0, h1⟩ := hc
                have hob := hle.get hq (by simp)
                obtain ⟨_, _, ee, _⟩ := RC_scalar rx rfl rfl (by simp)
                have hlt : i.toNat < xs.length := toNat_lt h0 h1
                obtain ⟨b, cap, arr, F1, k1, k2, k3, k4, k5, k6, k7⟩ := h.elem hob (rdL_get hlt)
                have ee : a.eval x = .slice (some ⟨b, 0, none⟩) xs.length cap := by rw [← k1]; simpa using ee
                refine does_pure h hd (v := .pointer (some ⟨b, i.toNat * e.size, none⟩)) ?_ (RV_scalar (av := .ptr id (some i) []) ⟨b, _, ⟨T', e, xs, e, _, cap, hob, k1, h0, hlt, sub_nil e, by rw [off_nil]; rfl⟩, rfl⟩ rfl rfl) lx _
                have hlt' : i < (xs.length : Int) := h1
                simp [execOp, ho, Instr.indexAt, asIntOf, hi, run_underlying hu, ee, h0, hlt', hEs, add_at]
              · cases hr
            | _ => rw [hq] at hr; cases hr
      | _ => rw [hx] at hr; cases hr
    | _ => rw [hy] at hr; cases hr
  | _ => rw [hy] at hr; cases hr

theorem does_index (hA : TyAll P X) {T : TypeId} {x y : Operand} (ho : o.op = .index T x y) (h : Sim w st ρ φ X.n a s) (hd : dstOk X o.dst = true) {nf : Nat} (hT : X.ty T = some (.str, nf)) {z : ByteArray} {k : IntKind} {i : Int}
    (hx : rho X s.env 0 x = .val .str z) (hy : rho X s.env 0 y = .val (.int k) i) (h0 : 0 ≤ i) (h1 : i < ((ByteArray.size z : Nat) : Int)) (c : Bool) : Does P X o w st ρ φ a s (.when c (.val (.int .u8) (strAt z i))) := by
  have vx := str_of_RV (hx ▸ opnd_RV h 0 x)
  have vy := int_of_RV (hy ▸ opnd_RV h 0 y)
  obtain ⟨d, hu, hdd⟩ := (hA _ _ _ hT).und
  cases hdd
  have hlt : i.toNat < z.size := by omega
  have hb : z[i.toNat]? = some (z.data.toList.getD i.toNat 0) := by
    have hlt' : i.toNat < z.data.size := hlt
    rw [getElem?_pos z i.toNat hlt]
    congr 1
    show z.data[i.toNat] = _
    simp [List.getD]
    rw [getElem?_pos z.data _ hlt']; rfl
  refine does_pure h hd (v := .int .u8 (strAt z i)) ?_ (RV_int _ _) (by simp [AV.ids]) _
  simp only [execOp, ho, Instr.index, vx, vy, asIntOf, run_underlying hu, Sem.run_bind, Sem.run_pure, Result.andThen_ok, if_pos h0, hb]
  rfl

theorem does_field (hA : TyAll P X) {T : TypeId} {x : Operand} {f : Nat} (ho : o.op = .field T x f) (h : Sim w st ρ φ X.n a s) (hd : dstOk X o.dst = true) (hle : Le hp s.hp) {S : Sh} {nf : Nat} (hT : X.ty T = some (S, nf)) (hf : f < nf)
    (hfit : fits hp S (rho X s.env 0 x) = true) {u : AV} (hg : getA (rho X s.env 0 x) (fp nf f) = some u) : Does P X o w st ρ φ a s (.pure u) := by
  have rx := opnd_RV h 0 x
  have hTy := hA _ _ _ hT
  obtain ⟨d, hu, hdd⟩ := hTy.und
  obtain ⟨fs, F, sub, m, hfs, hFs, hsub, hoff, hty⟩ : ∃ (fs : Array Field) (F : Field) (sub : Sh) (m : Nat), d = .struct fs ∧ fs[f]? = some F ∧ S.sub (fp nf f) = some sub ∧ F.offset = S.off (fp nf f) ∧ X.ty F.type = some (sub, m) := by
    cases S with
    | pair p q =>
      obtain ⟨fs, rfl, _, hfl⟩ := hdd
      obtain ⟨F, sub, m, h1, h2, h3, h4⟩ := hfl f hf
      exact ⟨fs, F, sub, m, rfl, h1, h2, h3, h4⟩
    | _ => have := hTy.nfp rfl; omega
  subst hfs
  obtain ⟨hF, hnu⟩ := fits_Fit hle hfit
  obtain ⟨cs, hv, hrc⟩ := RC_of_RV hF hnu rx
  have hpair : S.isPair = true := by
    cases hpp : S.isPair with
    | true => rfl
    | false => have := hTy.nfp hpp; omega
  rcases hv with ⟨_, hv⟩ | ⟨hh, _⟩
  rotate_left
  · rw [hpair] at hh; cases hh
  obtain ⟨hfu, hru⟩ := getA_RC hF hrc hsub hg
  obtain ⟨v', hv', hrun⟩ := run_part (P := P) (X := X) (w := w) (hA _ _ _ hty) (o := F.offset) (cs := cs) rfl (by rw [hoff]; exact RC_len hfu hru)
  rw [hoff] at hv'
  refine does_pure h hd (v := v') ?_ (RV_of_RC hfu hru hv') (fun j hj => opnd_ids h 0 x j (getA_ids hg hj)) _
  simp [execOp, ho, Instr.field, run_underlying hu, hFs, hv, asAgg, hrun]

/-! ### Conversions -/
theorem foldl_bytes : ∀ (xs : List Int) (b : ByteArray), xs.foldl (fun r n => r.push (UInt8.ofNat n.toNat)) b = ⟨b.data ++ (xs.map fun n => UInt8.ofNat n.toNat).toArray⟩
  | [], b => by simp
  | x :: xs, b => by
    rw [List.foldl_cons, foldl_bytes xs]
    congr 1
    apply Array.ext'
    simp [ByteArray.push]

theorem does_conv (hA : TyAll P X) {T T' : TypeId} {x : Operand} (ho : o.op = .convert T T' x) (h : Sim w st ρ φ X.n a s) (hd : dstOk X o.dst = true) (hle : Le hp s.hp) {d : Nat}
    {r : Res} (hr : convAV X hp d T T' (rho X s.env 0 x) = some r) (hsrc : ∃ q, X.ty T = some q) : Does P X o w st ρ φ a s r := by
  have rx := opnd_RV h 0 x
  obtain ⟨⟨S0, n0⟩, hT0⟩ := hsrc
  obtain ⟨d0, hu0, hd0⟩ := (hA _ _ _ hT0).und
  unfold convAV at hr
  split at hr
  · rename_i k m hT'
    obtain ⟨d1, hu1, hd1⟩ := (hA _ _ _ hT').und
    cases hd1
    split at hr
    · rename_i k' i hx
      cases hr
      have vx := int_of_RV (hx ▸ rx)
      exact does_pure h hd (v := .int k (k.wrap i)) (by simp [execOp, ho, vx, convert, run_underlying hu0, run_underlying hu1, Conv.intToInt]) (RV_int _ _) (by simp [AV.ids]) _
    · cases hr
  · rename_i m hT'
    obtain ⟨d1, hu1, hd1⟩ := (hA _ _ _ hT').und
    cases hd1
    split at hr
    · rename_i m2 hTs
      rw [hTs] at hT0; cases hT0
      cases hd0
      split at hr
      · rename_i z hx
        cases hr
        have vx := str_of_RV (hx ▸ rx)
        exact does_pure h hd (v := .string z) (by simp [execOp, ho, vx, convert, run_underlying hu0, run_underlying hu1]) (RV_str _) (by simp [AV.ids]) _
      · cases hr
    · rename_i E m2 hTs
      rw [hTs] at hT0; cases hT0
      obtain ⟨rfl, m3, hE⟩ := hd0
      obtain ⟨dE, huE, hdE⟩ := (hA _ _ _ hE).und
      cases hdE
      -- the bytes, read
      have main : ∀ (xs : List Int) (A : Option Addr) (cap : Nat), a.eval x = .slice A xs.length cap → (xs ≠ [] → ∃ b of, A = some ⟨b, of, none⟩ ∧ ∀ i y, xs[i]? = some y → w.cell? ⟨b, of + i, none⟩ = some (.int .u8 y)) →
          r = .pure (.val .str (bytesStr xs)) → Does P X o w st ρ φ a s r := by
        intro xs A cap hv hcells hrr
        subst hrr
        refine does_pure h hd (v := .string (bytesStr xs)) ?_ (RV_str _) (by simp [AV.ids]) _
        have key : (Conv.bytesToString (.slice A xs.length cap)).run P w = .ok (.string (bytesStr xs)) w := by
          cases A with
          | none =>
            have : xs = [] := by
              apply Classical.byContradiction; intro hne
              obtain ⟨b, of, e, _⟩ := hcells hne; cases e
            subst this
            simp [Conv.bytesToString, bytesStr]; rfl
          | some ad =>
            rw [run_bytesToString w ad xs.length cap xs ?_]
            · rw [foldl_bytes]; simp [bytesStr, show ByteArray.empty.data = #[] from rfl]
            · have := run_loadCells_list (P := P) w ad (xs.map (Value.int .u8)) (fun j v hv => by
                rw [List.getElem?_map] at hv
                cases hx : xs[j]? with
                | none => rw [hx] at hv; cases hv
                | some y =>
                  rw [hx] at hv; cases hv
                  have hne : xs ≠ [] := by intro e; rw [e] at hx; simp at hx
                  obtain ⟨b, of, e, hc⟩ := hcells hne
                  cases e
                  rw [add_at]; exact hc j y hx)
              simpa using this
        simp [execOp, ho, hv, convert, run_underlying hu0, run_underlying hu1, run_underlying huE, key]
      split at hr
      · rename_i E2 xs hx
        cases hr
        obtain ⟨A, cap, ee, _, hel⟩ := sl_of_RV (hx ▸ rx)
        refine main xs A cap (by simpa using ee) (fun hne => ?_) rfl
        obtain ⟨b, of, hA', _, hc⟩ := hel hne
        refine ⟨b, of, hA', fun i y hy => ?_⟩
        obtain ⟨cc, him, hcc⟩ := hc i y hy
        cases him
        have := hcc 0 _ rfl
        simpa [Sh.size] using this
      · rename_i id hx
        cases hq : hp id with
        | arr T2 e2 xs =>
          rw [hq] at hr
          cases e2 with
          | int k2 =>
            cases k2 <;> simp only [reduceCtorEq] at hr <;> try (cases hr; done)
            cases hr
            have rx' := hx ▸ rx
            have him := toVal_Im h hle (S := .sl T2 (.int .u8)) (v := .sref id none []) (x := xs) (by simp only [toVal, hq]; exact cst_self _) (RC_scalar rx' rfl rfl (by simp))
            obtain ⟨A, cap, ee, _, hel⟩ := him
            refine main xs A cap (by simpa using ee) (fun hne => ?_) rfl
            obtain ⟨b, of, hA', _, hc⟩ := hel hne
            refine ⟨b, of, hA', fun i y hy => ?_⟩
            obtain ⟨cc, him, hcc⟩ := hc i y hy
            cases him
            have := hcc 0 _ rfl
            simpa [Sh.size] using this
          | _ => cases hr
        | _ => rw [hq] at hr; cases hr
      · cases hr
    · cases hr
  · cases hr

/-! ### Slices -/
theorem run_sl_lh {T E : TypeId} {e : Sh} {nf m : Nat} (hA : TyAll P X) (hT : X.ty T = some (.sl E e, nf)) {A : Option Addr} {len cap : Nat} (hc : len ≤ cap) {lo hi : Option Value} {l h : Nat}
    (hlo : lo = none ∧ l = 0 ∨ ∃ k, lo = some (.int k (l : Int))) (hhi : hi = none ∧ h = len ∨ ∃ k, hi = some (.int k (h : Int))) (h1 : l ≤ h) (h2 : h ≤ len) :
    (Instr.sliceAt T (.slice A len cap) lo hi none).run P w = .ok (.slice (if cap = l then A else A.map (·.add (l * e.size))) (h - l) (cap - l)) w := by
  obtain ⟨d, hu, rfl, m, hE⟩ := (hA _ _ _ hT).und
  have hs := (hA _ _ _ hE).size w
  have b1 : ∀ k c, (Instr.sliceBound (.int k (h : Int)) cap c).run P w = .ok h w := fun k c => by
    rw [run_sliceBound w k h cap c (by omega) (by omega)]; simp
  have b2 : ∀ k c, (Instr.sliceBound (.int k (l : Int)) h c).run P w = .ok l w := fun k c => by
    rw [run_sliceBound w k l h c (by omega) (by omega)]; simp
  rcases hlo with ⟨rfl, rfl⟩ | ⟨k, rfl⟩ <;> rcases hhi with ⟨rfl, rfl⟩ | ⟨k', rfl⟩ <;>
    simp [Instr.sliceAt, run_underlying hu, Instr.slice, Instr.sliceBounds, hs, b1, b2]

theorem Im_slice {E : TypeId} {e : Sh} {xs : List e.den} {A : Option Addr} {cap : Nat} (h : Im w st (.sl E e) xs [.slice A xs.length cap]) {l u : Nat} (h1 : l ≤ u) (h2 : u ≤ xs.length) :
    Im w st (.sl E e) ((xs.take u).drop l) [.slice (if cap = l then A else A.map (·.add (l * e.size))) (u - l) (cap - l)] := by
  obtain ⟨A', cap', ee, hcap, hel⟩ := h
  cases ee
  have hlen : ((xs.take u).drop l).length = u - l := by simp; omega
  refine ⟨_, cap - l, by rw [hlen], by rw [hlen]; omega, fun hne => ?_⟩
  have hlt : l < u := by
    rcases Nat.lt_or_ge l u with h | h
    · exact h
    · exfalso; apply hne; apply List.eq_nil_of_length_eq_zero; omega
  obtain ⟨b, of, rfl, hst, hc⟩ := hel (by intro e; rw [e] at h2; simp at h2; omega)
  refine ⟨b, of + l * e.size, ?_, hst, fun i x hx => ?_⟩
  · rw [if_neg (by omega)]; simp [add_at]
  · have hx' : xs[l + i]? = some x := by
      rw [List.getElem?_drop, List.getElem?_take] at hx
      split at hx
      · exact hx
      · cases hx
    obtain ⟨cc, h3, h4⟩ := hc (l + i) x hx'
    refine ⟨cc, h3, fun j v hv => ?_⟩
    rw [← h4 j v hv]
    congr 2
    rw [Nat.add_mul]; omega

theorem run_str_lh {T : TypeId} (hu : P.underlying T = some .string) {z : ByteArray} {lo hi : Option Value} {l h : Nat}
    (hlo : lo = none ∧ l = 0 ∨ ∃ k, lo = some (.int k (l : Int))) (hhi : hi = none ∧ h = z.size ∨ ∃ k, hi = some (.int k (h : Int))) (h1 : l ≤ h) (h2 : h ≤ z.size) :
    (Instr.sliceAt T (.string z) lo hi none).run P w = .ok (.string (z.extract l h)) w := by
  have b1 : ∀ k c, (Instr.sliceBound (.int k (h : Int)) z.size c).run P w = .ok h w := fun k c => by
    rw [run_sliceBound w k h z.size c (by omega) (by omega)]; simp
  have b2 : ∀ k c, (Instr.sliceBound (.int k (l : Int)) h c).run P w = .ok l w := fun k c => by
    rw [run_sliceBound w k l h c (by omega) (by omega)]; simp
  rcases hlo with ⟨rfl, rfl⟩ | ⟨k, rfl⟩ <;> rcases hhi with ⟨rfl, rfl⟩ | ⟨k', rfl⟩ <;>
    simp [Instr.sliceAt, run_underlying hu, Instr.slice, Instr.sliceBounds, b1, b2]

theorem int_nat {k : IntKind} {i : Int} (h : 0 ≤ i) : Value.int k i = .int k ((i.toNat : Nat) : Int) := by rw [Int.toNat_of_nonneg h]

theorem opt_int {x : Option Operand} {k : IntKind} {i : Int} (h : Sim w st ρ φ X.n a s) (hx : x.map (rho X s.env 0) = some (.val (.int k) i)) : x.map a.eval = some (.int k i) := by
  cases x with
  | none => cases hx
  | some y =>
    simp only [Option.map_some, Option.some.injEq] at hx
    simp [int_of_RV (hx ▸ opnd_RV h 0 y)]

theorem opt_none {x : Option Operand} (hx : x.map (rho X s.env 0) = none) : x.map a.eval = none := by cases x <;> simp_all

theorem does_slice (hA : TyAll P X) {T : TypeId} {x : Operand} {lo hi mx : Option Operand} (ho : o.op = .slice T x lo hi mx) (h : Sim w st ρ φ X.n a s) (hd : dstOk X o.dst = true) {S : Sh} {nf : Nat} (hT : X.ty T = some (S, nf))
    {r : Res} (hr : sliceAV S (rho X s.env 0 x) (lo.map (rho X s.env 0)) (hi.map (rho X s.env 0)) (mx.map (rho X s.env 0)) = some r) (hc : r.c = true) : Does P X o w st ρ φ a s r := by
  have rx := opnd_RV h 0 x
  obtain ⟨d, hu, hdd⟩ := (hA _ _ _ hT).und
  cases hx : rho X s.env 0 x with
  | val t xs =>
    rw [hx] at hr rx
    cases t with
    | sl E e =>
      simp only [sliceAV] at hr
      split at hr
      · rename_i hS; subst hS
        obtain ⟨A, cap, ee, hcap, hel⟩ := sl_of_RV rx
        have ee : a.eval x = .slice A xs.length cap := by simpa using ee
        have him : Im w st (.sl E e) xs [.slice A xs.length cap] := by rw [← ee]; exact sl_of_RV rx
        split at hr
        · rename_i k u hlo hhi hmx
          cases hr
          simp only [Res.when, Bool.and_eq_true, decide_eq_true_eq] at hc
          have hrun := run_sl_lh (P := P) (w := w) hA hT (A := A) hcap (lo := lo.map a.eval) (hi := hi.map a.eval) (l := 0) (h := u.toNat) (m := 0) (.inl ⟨opt_none hlo, rfl⟩) (.inr ⟨k, by rw [opt_int h hhi, int_nat hc.1]⟩) (by omega) (Int.toNat_le.2 hc.2)
          refine does_pure h hd ?_ (RV_val (S := .sl E e) (Im_slice him (Nat.zero_le u.toNat) (Int.toNat_le.2 hc.2)) (.inr ⟨rfl, rfl⟩)) (by simp [AV.ids]) _
          simp only [execOp, ho, ee, opt_none (a := a) hmx, hrun, Sem.run_bind, Result.andThen_ok]; rfl
        · rename_i k u hlo hhi hmx
          cases hr
          simp only [Res.when, Bool.and_eq_true, decide_eq_true_eq] at hc
          have hrun := run_sl_lh (P := P) (w := w) hA hT (A := A) hcap (lo := lo.map a.eval) (hi := hi.map a.eval) (l := u.toNat) (h := xs.length) (m := 0) (.inr ⟨k, by rw [opt_int h hlo, int_nat hc.1]⟩) (.inl ⟨opt_none hhi, rfl⟩) (Int.toNat_le.2 hc.2) (Nat.le_refl _)
          have := Im_slice him (Int.toNat_le.2 hc.2) (Nat.le_refl xs.length)
          rw [List.take_length] at this
          refine does_pure h hd ?_ (RV_val (S := .sl E e) this (.inr ⟨rfl, rfl⟩)) (by simp [AV.ids]) _
          simp only [execOp, ho, ee, opt_none (a := a) hmx, hrun, Sem.run_bind, Result.andThen_ok]; rfl
        · rename_i k u k' u' hlo hhi hmx
          cases hr
          simp only [Res.when, Bool.and_eq_true, decide_eq_true_eq] at hc
          obtain ⟨⟨h0, h1⟩, h2⟩ := hc
          have hu0 : (0 : Int) ≤ u' := Int.le_trans h0 h1
          have hrun := run_sl_lh (P := P) (w := w) hA hT (A := A) hcap (lo := lo.map a.eval) (hi := hi.map a.eval) (l := u.toNat) (h := u'.toNat) (m := 0) (.inr ⟨k, by rw [opt_int h hlo, int_nat h0]⟩) (.inr ⟨k', by rw [opt_int h hhi, int_nat hu0]⟩) (Int.toNat_le_toNat h1) (Int.toNat_le.2 h2)
          refine does_pure h hd ?_ (RV_val (S := .sl E e) (Im_slice him (Int.toNat_le_toNat h1) (Int.toNat_le.2 h2)) (.inr ⟨rfl, rfl⟩)) (by simp [AV.ids]) _
          simp only [execOp, ho, ee, opt_none (a := a) hmx, hrun, Sem.run_bind, Result.andThen_ok]; rfl
        · rename_i k u k' u' hlo hhi hmx
          cases hr
          simp only [Res.when, Bool.and_eq_true, decide_eq_true_eq] at hc
          obtain ⟨h0, h1⟩ := hc
          have eh : hi.map a.eval = some (.int k 0) := by rw [opt_int h hhi]; congr 2
          have em : mx.map a.eval = some (.int k' 0) := by rw [opt_int h hmx]; congr 2
          obtain ⟨rfl, m, hE⟩ := hdd
          have hs := (hA _ _ _ hE).size w
          refine does_pure h hd (v := .slice A 0 0) ?_ (RV_scalar (av := .nilv E e) ⟨A, rfl⟩ rfl rfl) (by simp [AV.ids]) _
          simp [execOp, ho, ee, opt_none (a := a) hlo, eh, em, Instr.sliceAt, run_underlying hu, Instr.slice, Instr.sliceBounds, Instr.sliceBound, asIntOf, hs]
        · cases hr
      · cases hr
    | str =>
      simp only [sliceAV] at hr
      split at hr
      · rename_i hS; subst hS
        cases hdd
        have ee := str_of_RV rx
        split at hr
        · rename_i k u hlo hhi hmx
          cases hr
          simp only [Res.when, Bool.and_eq_true, decide_eq_true_eq] at hc
          have hrun := run_str_lh (P := P) (w := w) hu (z := xs) (lo := lo.map a.eval) (hi := hi.map a.eval) (l := 0) (h := u.toNat) (.inl ⟨opt_none hlo, rfl⟩) (.inr ⟨k, by rw [opt_int h hhi, int_nat hc.1]⟩) (by omega) (Int.toNat_le.2 hc.2)
          refine does_pure h hd ?_ (RV_str _) (by simp [AV.ids]) _
          simp only [execOp, ho, ee, opt_none (a := a) hmx, hrun, Sem.run_bind, Result.andThen_ok]; rfl
        · rename_i k u hlo hhi hmx
          cases hr
          simp only [Res.when, Bool.and_eq_true, decide_eq_true_eq] at hc
          have hrun := run_str_lh (P := P) (w := w) hu (z := xs) (lo := lo.map a.eval) (hi := hi.map a.eval) (l := u.toNat) (h := ByteArray.size xs) (.inr ⟨k, by rw [opt_int h hlo, int_nat hc.1]⟩) (.inl ⟨opt_none hhi, rfl⟩) (Int.toNat_le.2 hc.2) (Nat.le_refl _)
          refine does_pure h hd ?_ (RV_str _) (by simp [AV.ids]) _
          simp only [execOp, ho, ee, opt_none (a := a) hmx, hrun, Sem.run_bind, Result.andThen_ok]; rfl
        · rename_i k u k' u' hlo hhi hmx
          cases hr
          simp only [Res.when, Bool.and_eq_true, decide_eq_true_eq] at hc
          obtain ⟨⟨h0, h1⟩, h2⟩ := hc
          have hu0 : (0 : Int) ≤ u' := Int.le_trans h0 h1
          have hrun := run_str_lh (P := P) (w := w) hu (z := xs) (lo := lo.map a.eval) (hi := hi.map a.eval) (l := u.toNat) (h := u'.toNat) (.inr ⟨k, by rw [opt_int h hlo, int_nat h0]⟩) (.inr ⟨k', by rw [opt_int h hhi, int_nat hu0]⟩) (Int.toNat_le_toNat h1) (Int.toNat_le.2 h2)
          refine does_pure h hd ?_ (RV_str _) (by simp [AV.ids]) _
          simp only [execOp, ho, ee, opt_none (a := a) hmx, hrun, Sem.run_bind, Result.andThen_ok]; rfl
        · cases hr
      · cases hr
    | _ => cases hr
  | nilv E e =>
    rw [hx] at hr rx
    simp only [sliceAV] at hr
    split at hr
    · rename_i hS; subst hS
      obtain ⟨A, ee⟩ := RC_scalar rx rfl rfl (by simp)
      have ee : a.eval x = .slice A 0 0 := by simpa using ee
      split at hr
      · rename_i k u k' u' hlo hhi hmx
        cases hr
        simp only [Res.when, Bool.and_eq_true, decide_eq_true_eq] at hc
        obtain ⟨h0, h1⟩ := hc
        have eh : hi.map a.eval = some (.int k 0) := by rw [opt_int h hhi]; congr 2
        have em : mx.map a.eval = some (.int k' 0) := by rw [opt_int h hmx]; congr 2
        obtain ⟨rfl, m, hE⟩ := hdd
        have hs := (hA _ _ _ hE).size w
        refine does_pure h hd (v := .slice A 0 0) ?_ (RV_scalar (av := .nilv E e) ⟨A, rfl⟩ rfl rfl) (by simp [AV.ids]) _
        simp [execOp, ho, ee, opt_none (a := a) hlo, eh, em, Instr.sliceAt, run_underlying hu, Instr.slice, Instr.sliceBounds, Instr.sliceBound, asIntOf, hs]
      · cases hr
    · cases hr
  | _ => rw [hx] at hr; cases hr

end
end Go.Vm
