/- All operations together, calls apart. -/
import Derived.Test.YtkjimaolpijoiaaVm12
set_option linter.unusedVariables false
set_option linter.unusedSimpArgs false
namespace Go.Vm

section
variable {P : Program} {X : Ctx} {w : World} {st : Blks} {ρ : Nat → Value} {φ : Nat → Blks} {n : Nat} {a : Act} {s : St} {o : Oper} {hp : Nat → Ob}

theorem new_free {l : List Nat} {d : Nat} {ob : Ob} (h : newOk s l [(d, ob)] = true) (hn : (restr s.hp l d).isNone = true) : s.hp d = .none ∧ d % 10000 < 5000 := by
  simp only [newOk, Bool.and_true] at h
  unfold restr at hn
  cases hi : (s.hp d).isNone
  · rw [hi] at h
    have h : mem d l = true := h
    rw [h] at hn
    simp only [cond_true] at hn
    rw [hi] at hn; cases hn
  · rw [hi] at h
    refine ⟨isNone_iff.1 hi, ?_⟩
    simpa [Nat.blt_eq] using h

theorem appendAV_up {d : Nat} {T : TypeId} {e : Sh} {x y : AV} {r : Res} (h : appendAV hp d T e x y = some r) : (hp d).isNone = true ∧ ∃ ob, r.up = [(d, ob)] := by
  unfold appendAV at h
  split at h
  · rename_i xs l ys m _ _
    cases hc : (nodup (l ++ m) && (hp d).isNone) <;> rw [hc] at h
    · cases h
    · simp only [cond_true, Option.some.injEq] at h
      subst h
      simp only [Bool.and_eq_true] at hc
      exact ⟨hc.2, _, rfl⟩
  · cases h

theorem oneI_some {v : AV} {n : Int} (h : oneI v = some n) : ∃ k, v = .val (.int k) n := by
  unfold oneI at h
  split at h
  · cases h; exact ⟨_, rfl⟩
  · cases h

theorem core_does (hA : TyAll P X) (h : Sim w st ρ φ X.n a s) (hd : dstOk X o.dst = true) {l : List Nat} {r : Res} (hnew : newOk s l r.up = true)
    (hr : core X o (rho X s.env) (restr s.hp l) = some r) (hc : r.c = true) (hcall : ∀ c f, o.op = .call c → c.callee = .value f → Does P X o w st ρ φ a s r) : Does P X o w st ρ φ a s r := by
  have hle := Le_restr s.hp l
  unfold core at hr
  cases hop : o.op with
  | move x => simp only [hop] at hr; cases hr; exact does_move (.inl hop) h hd
  | assign x => simp only [hop] at hr; cases hr; exact does_move (.inr hop) h hd
  | pick c x y =>
    simp only [hop] at hr
    split at hr
    · rename_i t ht
      have := does_pick (P := P) hop h hd ht
      cases t <;> simp only [cond_true, cond_false, Option.some.injEq] at hr this <;> subst hr <;> exact this
    · cases hr
  | alloc T =>
    simp only [hop] at hr
    split at hr
    · rename_i S nf d hT hdst
      cases hn : (restr s.hp l d).isNone <;> rw [hn] at hr
      · cases hr
      simp only [cond_true, Option.some.injEq] at hr
      subst hr
      obtain ⟨h1, h2⟩ := new_free hnew hn
      exact does_alloc hA hop h hdst h1 hd h2 hT
    · cases hr
  | box T x =>
    simp only [hop] at hr
    split at hr
    · rename_i S nf d hT hdst
      cases hn : (fits (restr s.hp l) S (rho X s.env T x) && (restr s.hp l d).isNone) <;> rw [hn] at hr
      · cases hr
      simp only [cond_true, Option.some.injEq] at hr
      subst hr
      simp only [Bool.and_eq_true] at hn
      obtain ⟨h1, h2⟩ := new_free hnew hn.2
      exact does_box hA hop h hle hdst h1 hd h2 hn.1
    · cases hr
  | build T parts =>
    simp only [hop] at hr
    split at hr
    · rename_i p q nf hT
      split at hr
      · rename_i v hv
        cases hr
        exact does_build hA hop h hd hle hT hv rfl
      · cases hr
    · cases hr
  | buildSlice T n parts =>
    simp only [hop] at hr
    split at hr
    · rename_i E e nf d hT hdst
      exact does_buildSlice hA hop h hle hdst hd hT (fun ob he hn => new_free (he ▸ hnew) hn) hr
    · cases hr
  | load T x =>
    simp only [hop] at hr
    split at hr
    · rename_i S nf hT
      exact does_load hA hop h hd hle hT hr
    · cases hr
  | store T x y =>
    simp only [hop] at hr
    split at hr
    · rename_i S nf hT
      exact does_store hA hop h hd hle hT hr
    · cases hr
  | nilCheck x =>
    simp only [hop] at hr
    split at hr
    · rename_i id ix p hx
      cases hr
      exact does_nilCheck hop h hd hx
    · cases hr
  | binOp op T x y T' =>
    simp only [hop] at hr
    split at hr
    · rename_i r' hn
      cases hr
      exact does_nilQ hA hop h hd hn
    · exact does_bop hA hop h hd hle hr hc
  | unOp op T x =>
    simp only [hop] at hr
    split at hr
    · rename_i b h1 h2; cases hr; exact does_not hop h hd (by assumption)
    · cases hr; exact does_neg hop h hd (by assumption)
    · cases hr
  | convert src dst x =>
    simp only [hop] at hr
    split at hr
    · rename_i q hq
      exact does_conv hA hop h hd hle hr ⟨q, hq⟩
    · cases hr
  | makeFunc fn first caps =>
    simp only [hop] at hr
    unfold makeFuncAV at hr
    split at hr
    · rename_i f hf
      split at hr
      · rename_i m hm
        cases hr
        exact does_makeFunc hop hf h hd hm
      · cases hr
    · cases hr
  | makeSlice T x y =>
    simp only [hop] at hr
    split at hr
    · rename_i E e nf d hT hdst
      split at hr
      · rename_i n m h1 h2
        obtain ⟨k1, e1⟩ := oneI_some h1
        obtain ⟨k2, e2⟩ := oneI_some h2
        cases hn : (restr s.hp l d).isNone <;> rw [hn] at hr
        · cases hr
        simp only [cond_true, Option.some.injEq] at hr
        subst hr
        obtain ⟨h3, h4⟩ := new_free hnew hn
        simp only [Bool.and_eq_true, decide_eq_true_eq] at hc
        have hbig := hc.1.2
        unfold BIG at hbig
        exact does_makeSlice hA hop h hdst h3 hd h4 hT e1 e2 hc.1.1 (by simpa using hbig) hc.2 _
      · cases hr
    · cases hr
  | slice T x lo hi mx =>
    simp only [hop] at hr
    split at hr
    · rename_i S nf hT
      exact does_slice hA hop h hd hT hr hc
    · cases hr
  | fieldAddr T x f =>
    simp only [hop] at hr
    split at hr
    · rename_i S nf hT
      cases hf : Nat.blt f nf <;> rw [hf] at hr
      · cases hr
      simp only [cond_true] at hr
      exact does_fieldAddr hA hop h hd hle hT (by simpa [Nat.blt_eq] using hf) hr
    · cases hr
  | field T x f =>
    simp only [hop] at hr
    split at hr
    · rename_i S nf hT
      cases hf : (Nat.blt f nf && fits (restr s.hp l) S (rho X s.env 0 x)) <;> rw [hf] at hr
      · cases hr
      simp only [cond_true] at hr
      simp only [Bool.and_eq_true, Nat.blt_eq] at hf
      split at hr
      · rename_i v hv
        cases hr
        exact does_field hA hop h hd hle hT hf.1 hf.2 hv
      · cases hr
    · cases hr
  | indexAddr T x y =>
    simp only [hop] at hr
    split at hr
    · rename_i E e nf hT
      exact does_indexAddr hA hop h hd hle hT hr hc
    · cases hr
  | index T x y =>
    simp only [hop] at hr
    split at hr
    · rename_i nf z k i hT hx hy
      cases hr
      simp only [Res.when, Bool.and_eq_true, decide_eq_true_eq] at hc
      exact does_index hA hop h hd hT hx hy hc.1 hc.2 _
    · cases hr
  | extract x i =>
    simp only [hop] at hr
    split at hr
    · rename_i v hv
      cases ht : v.isTup <;> rw [ht] at hr
      · simp only [cond_false, Option.some.injEq] at hr
        subst hr
        exact does_extract hop h hd hv ht
      · cases hr
    · cases hr
  | call c =>
    simp only [hop] at hr
    split at hr
    · rename_i hcal
      split at hr
      · rename_i x T ts ha hts
        split at hr
        · rename_i S nf hT
          exact does_len hA hop hcal ha hts h hd hle hT hr
        · cases hr
      · cases hr
    · rename_i hcal
      split at hr
      · rename_i x y T T' d ha hts hdst
        split at hr
        · rename_i hTT
          subst hTT
          split at hr
          · rename_i E e nf hT
            obtain ⟨h1, ob, h2⟩ := appendAV_up hr
            rw [h2] at hnew
            obtain ⟨h3, h4⟩ := new_free hnew h1
            exact does_append hA hop hcal ha hts hdst h hd hle hT hr hc h3 h4
          · cases hr
        · cases hr
      · cases hr
    · rename_i f hcal
      exact hcall c f hop hcal
    · cases hr
  | _ => simp only [hop] at hr; cases hr

end
end Go.Vm
