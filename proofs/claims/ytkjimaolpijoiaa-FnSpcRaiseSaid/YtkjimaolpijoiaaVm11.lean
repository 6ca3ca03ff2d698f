/- Single operations: stores; and all of them together, calls apart. -/
import Derived.Test.YtkjimaolpijoiaaVm10
set_option linter.unusedVariables false
set_option linter.unusedSimpArgs false
namespace Go.Vm

theorem sub_flat : ∀ {S : Sh} {p : List Bool} {s : Sh}, S.flat = true → S.sub p = some s → s.flat = true
  | S, [], s, hp, h => by rw [sub_nil] at h; cases h; exact hp
  | .pair a b, false :: p, s, hp, h => by
    simp only [Sh.flat, Bool.and_eq_true] at hp
    exact sub_flat hp.1 (by simpa [Sh.sub] using h)
  | .pair a b, true :: p, s, hp, h => by
    simp only [Sh.flat, Bool.and_eq_true] at hp
    exact sub_flat hp.2 (by simpa [Sh.sub] using h)
  | .int _, _ :: _, _, _, h => by simp [Sh.sub] at h
  | .bool, _ :: _, _, _, h => by simp [Sh.sub] at h
  | .str, _ :: _, _, _, h => by simp [Sh.sub] at h
  | .sl _ _, _ :: _, _, _, h => by simp [Sh.sub] at h
  | .unit, _ :: _, _, _, h => by simp [Sh.sub] at h

theorem sub_apart : ∀ {S : Sh} {p q : List Bool} {s : Sh} {T : TypeId} {e : Sh}, S.sub p = some s → s.flat = true → S.sub q = some (.sl T e) → S.off q < S.off p ∨ S.off p + s.size ≤ S.off q
  | S, [], q, s, T, e, h1, h2, h3 => by
    rw [sub_nil] at h1; cases h1
    have := sub_flat h2 h3
    simp [Sh.flat] at this
  | .pair a b, false :: p, [], s, T, e, h1, h2, h3 => by simp [Sh.sub] at h3
  | .pair a b, true :: p, [], s, T, e, h1, h2, h3 => by simp [Sh.sub] at h3
  | .pair a b, false :: p, false :: q, s, T, e, h1, h2, h3 => by
    have := sub_apart (S := a) (p := p) (q := q) (by simpa [Sh.sub] using h1) h2 (by simpa [Sh.sub] using h3)
    simpa [Sh.off] using this
  | .pair a b, true :: p, true :: q, s, T, e, h1, h2, h3 => by
    have := sub_apart (S := b) (p := p) (q := q) (by simpa [Sh.sub] using h1) h2 (by simpa [Sh.sub] using h3)
    simp only [Sh.off]; omega
  | .pair a b, false :: p, true :: q, s, T, e, h1, h2, h3 => by
    have := sub_size (S := a) (p := p) (s := s) (by simpa [Sh.sub] using h1)
    simp only [Sh.off]; omega
  | .pair a b, true :: p, false :: q, s, T, e, h1, h2, h3 => by
    have := sub_size (S := a) (p := q) (s := .sl T e) (by simpa [Sh.sub] using h3)
    simp only [Sh.off, Sh.size] at this ⊢; omega
  | .int _, _ :: _, _, _, _, _, h, _, _ => by simp [Sh.sub] at h
  | .bool, _ :: _, _, _, _, _, h, _, _ => by simp [Sh.sub] at h
  | .str, _ :: _, _, _, _, _, h, _, _ => by simp [Sh.sub] at h
  | .sl _ _, _ :: _, _, _, _, _, h, _, _ => by simp [Sh.sub] at h
  | .unit, _ :: _, _, _, _, _, h, _, _ => by simp [Sh.sub] at h

section
variable {P : Program} {X : Ctx} {w : World} {st : Blks} {ρ : Nat → Value} {φ : Nat → Blks} {n : Nat} {a : Act} {s : St} {o : Oper} {hp : Nat → Ob}

theorem Fit_ids {O : Nat → Ob} : ∀ {S : Sh} {v : AV} {id : Nat}, Fit O S v → id ∈ v.ids → ∃ T e xs, O id = .arr T e xs := by
  intro S v
  induction v generalizing S with
  | pair u v ihu ihv =>
    intro id h hid
    rcases Fit_inv h with ⟨x, hx⟩ | ⟨p, q, u', v', rfl, e, h1, h2⟩ | ⟨T, e, rfl, hx⟩
    · cases hx
    · cases e
      rcases List.mem_append.1 hid with h | h
      · exact ihu h1 h
      · exact ihv h2 h
    · rcases hx with hx | ⟨_, _, hx, _⟩ | hx <;> cases hx
  | sref j ix p =>
    intro id h hid
    rcases Fit_inv h with ⟨x, hx⟩ | ⟨p, q, u', v', rfl, e, h1, h2⟩ | ⟨T, e, rfl, hx⟩
    · cases hx
    · cases e
    · rcases hx with hx | ⟨k, xs, hx, ho⟩ | hx
      · cases hx
      · cases hx; simp [AV.ids] at hid; subst hid; exact ⟨_, _, _, ho⟩
      · cases hx
  | ptr j ix p =>
    intro id h hid
    rcases Fit_inv h with ⟨x, hx⟩ | ⟨p, q, u', v', rfl, e, h1, h2⟩ | ⟨T, e, rfl, hx⟩
    · cases hx
    · cases e
    · rcases hx with hx | ⟨k, xs, hx, ho⟩ | hx <;> cases hx
  | fn j ix =>
    intro id h hid
    rcases Fit_inv h with ⟨x, hx⟩ | ⟨p, q, u', v', rfl, e, h1, h2⟩ | ⟨T, e, rfl, hx⟩
    · cases hx
    · cases e
    · rcases hx with hx | ⟨k, xs, hx, ho⟩ | hx <;> cases hx
  | tcons u v _ _ =>
    intro id h hid
    have := Fit_tup h
    simp [AV.isTup] at this
  | _ => intro id h hid; simp [AV.ids] at hid

theorem does_store_box (hA : TyAll P X) {T : TypeId} {x y : Operand} (ho : o.op = .store T x y) (h : Sim w st ρ φ X.n a s) (hd : dstOk X o.dst = true) {S : Sh} {nf : Nat} (hT : X.ty T = some (S, nf))
    {id : Nat} {p : List Bool} (hx : rho X s.env 0 x = .ptr id none p) {S' : Sh} {u u' : AV} (hob : s.hp id = .box S' u) (hsub : S'.sub p = some S) (hF1 : Fit s.hp S (rho X s.env T y)) (hnu : rho X s.env T y ≠ .unk) (hset : setA u p (rho X s.env T y) = some u') :
    Does P X o w st ρ φ a s ⟨true, .unk, [(id, .box S' u')], [], []⟩ := by
  have rx := opnd_RV h 0 x
  rw [hx] at rx
  obtain ⟨b, of, hpt, e⟩ := RC_scalar rx rfl rfl (by simp)
  have e : a.eval x = .pointer (some ⟨b, of, none⟩) := by simpa using e
  obtain ⟨S'', s'', hS, hr, hs2, rfl⟩ := hpt
  have : S'' = S' := by
    rcases hS with ⟨v, hv⟩ | ⟨v, hv⟩ <;> rw [hob] at hv <;> cases hv; rfl
  subst this
  have hobr := h.ob id
  rw [hob] at hobr
  obtain ⟨b', arr, T', hr', hφ, hheap, hFu, hRu⟩ := hobr
  rw [hr] at hr'; cases hr'
  obtain ⟨cu, hv, hRv⟩ := RC_of_RV hF1 hnu (opnd_RV h T y)
  obtain ⟨hF2, hR2⟩ := setA_RC hFu hRu hsub hF1 hRv hset
  have hlu := RC_len hF1 hRv
  have hlc := RC_len hFu hRu
  have hss := sub_size hsub
  have hasz : arr.size = S''.size := by simpa using hlc
  have hst := (hA _ _ _ hT).storeVar hv hlu (RC_ones hRv) hheap (o := S''.off p) (by omega)
  have hkeep : ∀ k, k ≠ b → (w.setRow b (patch arr.toList (S''.off p) cu).toArray).heap[k]? = w.heap[k]? := fun k hk => setRow_other w b k _ hk
  have hstb : ¬ st b := (h.lt id b hφ).2
  have hids : ∀ j ∈ u'.ids, j ≠ id := fun j hj e => by
    obtain ⟨_, _, _, hh⟩ := Fit_ids hF2 hj
    rw [e, hob] at hh; cases hh
  have hlive : ∀ j ∈ u'.ids, s.hp j ≠ .none := fun j hj => by
    obtain ⟨_, _, _, hh⟩ := Fit_ids hF2 hj
    rw [hh]; simp
  have hm : Sim (w.setRow b (patch arr.toList (S''.off p) cu).toArray) st ρ φ X.n a ⟨s.env, updL s.hp [(id, .box S'' u')]⟩ := by
    refine h.upd (by simp) (fun _ h => h) (fun k hk => hkeep k (fun e => hstb (e ▸ hk))) (fun j hj => ⟨rfl, rfl, fun k hk => hkeep k (fun e => ?_)⟩) (by simp) (fun q hq => ?_) (fun _ => true) (fun q hq hne => ?_) (by simp)
      (fun j k hk => ⟨by simpa using (h.lt j k hk).1, (h.lt j k hk).2⟩) h.dj (fun k hk => by simpa using h.stlt k hk) (fun q hq j hj => ?_)
    · subst e; exact (by simpa using hj : j ≠ id) (h.dj j id k hk hφ)
    · simp at hq; subst hq
      refine ⟨b, _, T', hr, hφ, setRow_heap w b _ _ T' _ hheap, ?_, ?_⟩
      · refine Fit_change (fun j hj T e xs he => ⟨xs, ?_⟩) hF2
        show Go.Vm.upd s.hp id _ j = _
        rw [upd_ne _ _ (hids j hj)]; exact he
      · refine RC_change (fun _ h => h) (fun k hk => hkeep k (fun e => hstb (e ▸ hk))) (fun j hj => ?_) (by simpa using hR2)
        have e1 : updL s.hp [(id, .box S'' u')] j = s.hp j := upd_ne _ _ (hids j hj)
        rw [e1]
        exact h.compat (hlive j hj) rfl (fun k hk => hkeep k (fun e => hids j hj (h.dj j id k hk (e ▸ hφ)))) _
    · simp at hq; subst hq
      rw [hob]
      refine ⟨rfl, rfl, fun _ i p b o hp _ => ?_⟩
      obtain ⟨T, el, xs, sh, l, c, h4, _⟩ := hp
      cases h4
    · simp at hq; subst hq
      show Go.Vm.upd s.hp id _ j ≠ _
      rw [upd_ne _ _ (hids j hj)]; exact hlive j hj
  refine ⟨.skip, undef, _, st, _, _, by simp [execOp, ho, e, Instr.storeAt, Instr.sureAddr, hst], .inr ⟨rfl, rfl⟩, hm.put o.dst _ .unk (fun q hq => ?_) (RV_unk _) (by simp [AV.ids]), ?_⟩
  · rw [hq] at hd; simpa [dstOk, Nat.blt_eq] using hd
  · refine ⟨rfl, rfl, rfl, by simp, fun k hk hn => hkeep k (fun e => hn id (e ▸ hφ)), fun _ h => h, fun _ h => .inl h, fun j k hk => .inl ⟨j, hk⟩, fun j hp5 hn => ⟨?_, rfl⟩⟩
    have : (s.app o.dst ⟨true, .unk, [(id, .box S'' u')], [], []⟩).hp j = Go.Vm.upd s.hp id (.box S'' u') j := by cases o.dst <;> rfl
    rw [this] at hn
    by_cases hj : j = id
    · rw [hj, hob]; simp
    · rwa [upd_ne _ _ hj] at hn

end
end Go.Vm
