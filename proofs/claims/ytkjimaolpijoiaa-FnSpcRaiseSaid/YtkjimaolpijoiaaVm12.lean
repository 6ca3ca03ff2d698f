/- Single operations: stores into elements; and all operations together, calls apart. -/
import Derived.Test.YtkjimaolpijoiaaVm11
set_option linter.unusedVariables false
set_option linter.unusedSimpArgs false
namespace Go.Vm

section
variable {P : Program} {X : Ctx} {w : World} {st : Blks} {ρ : Nat → Value} {φ : Nat → Blks} {n : Nat} {a : Act} {s : St} {o : Oper} {hp : Nat → Ob}

theorem scrub_arr {D : List Nat} {id : Nat} {T : TypeId} {e : Sh} {xs : List e.den} (h : s.hp id = .arr T e xs) (hn : id ∉ D) : (s.scrub D).hp id = .arr T e xs := by
  cases D with
  | nil => exact h
  | cons x D =>
    show (bif mem id (x :: D) then Ob.none else (s.hp id).mapA _) = _
    rw [mem_false.2 hn, h]; rfl

theorem killN_arr {D : List Nat} {id : Nat} {T : TypeId} {e : Sh} {xs : List e.den} (h : s.hp id = .arr T e xs) : (s.killN D).hp id = .arr T e xs := by
  cases D with
  | nil => exact h
  | cons x D =>
    show ((s.hp id).mapA _) = _
    rw [h]; rfl

theorem killN_live {D : List Nat} {id : Nat} (h : (s.killN D).hp id ≠ .none) : s.hp id ≠ .none := by
  cases D with
  | nil => exact h
  | cons x D =>
    have h : (s.hp id).mapA (AV.killN (x :: D)) ≠ .none := h
    intro e; rw [e] at h; exact h rfl

theorem killN_nests {D : List Nat} {id : Nat} (hd : id ∈ D) : (∀ t, ((s.killN D).env t).nests id = false) ∧ ∀ k S v, (s.killN D).hp k = .box S v → v.nests id = false := by
  cases D with
  | nil => cases hd
  | cons x D =>
    refine ⟨fun t => nests_killN hd, fun k S v hv => ?_⟩
    have hv : (s.hp k).mapA (AV.killN (x :: D)) = .box S v := hv
    cases hk : s.hp k with
    | box S' u => rw [hk] at hv; cases hv; exact nests_killN hd
    | none => rw [hk] at hv; cases hv
    | cbox _ _ => rw [hk] at hv; cases hv
    | arr _ _ _ => rw [hk] at hv; cases hv

theorem cell_setRow {b o : Nat} {arr : Array Value} {T : TypeId} {fz : Nat × Nat} {cs : List Value} (h : w.heap[b]? = some (.cells arr T fz)) (ho : cs[o]? = arr.toList[o]?) :
    (w.setRow b cs.toArray).cell? ⟨b, o, none⟩ = w.cell? ⟨b, o, none⟩ := by
  have := setRow_heap w b arr cs.toArray T fz h
  simp only [World.cell?, h, this]
  simp at ho ⊢
  exact ho

theorem does_store_arr (hA : TyAll P X) {T : TypeId} {x y : Operand} (ho : o.op = .store T x y) (h : Sim w st ρ φ X.n a s) (hd : dstOk X o.dst = true) (hle : Le hp s.hp) {S : Sh} {nf : Nat} (hT : X.ty T = some (S, nf))
    {id : Nat} {i : Int} {p : List Bool} (hx : rho X s.env 0 x = .ptr id (some i) p) {E : TypeId} {e : Sh} {xs : List e.den} (hob : s.hp id = .arr E e xs) (hsub : e.sub p = some S) {v : S.den} {D : List Nat}
    (hab : absorb hp S (rho X s.env T y) = some (v, D)) {z : e.den} (hset : setT e (rdL xs i) p S v = some z) (hnd : (id :: D).Nodup) (c : Bool) :
    Does P X o w st ρ φ a s ⟨c, .unk, [(id, .arr E e (xs.set i.toNat z))], D, bif S.flat then [] else [id]⟩ := by
  have rx := opnd_RV h 0 x
  rw [hx] at rx
  obtain ⟨b, of, hpt, ee⟩ := RC_scalar rx rfl rfl (by simp)
  have ee : a.eval x = .pointer (some ⟨b, of, none⟩) := by simpa using ee
  obtain ⟨E', e', xs', sh, ll, cc, hh, hr, h0, hi, hs2, hof⟩ := hpt
  rw [hob] at hh; cases hh
  simp only [List.nodup_cons] at hnd
  have hobr := h.ob id
  rw [hob] at hobr
  rcases hobr with ⟨rfl, _⟩ | ⟨b', cap, arr, F', hr', g1, g2, g3, g4, g5, g6, g7, g8⟩
  · simp at hi
  have hr' : ρ id = .slice (some ⟨b', 0, none⟩) xs.length cap := by simpa using hr'
  rw [hr] at hr'; cases hr'
  obtain ⟨cs, hv, hRv⟩ := absorb_RV hab (opnd_RV h T y)
  have hlu := absorb_len hab hRv
  have hOv := absorb_Ow h hle hab hnd.2 hRv
  have hss := sub_size hsub
  have hic : i.toNat * e.size + e.size ≤ arr.size := by
    rw [g7]
    have : (i.toNat + 1) * e.size ≤ cc * e.size := Nat.mul_le_mul_right _ (by omega)
    rw [Nat.add_mul] at this; omega
  have hst := (hA _ _ _ hT).storeVar hv hlu (Ow_ones hOv) g4 (o := of) (by omega)
  have hkeep : ∀ k, k ≠ b → (w.setRow b (patch arr.toList of cs).toArray).heap[k]? = w.heap[k]? := fun k hk => setRow_other w b k _ hk
  have hstb : ¬ st b := (h.lt id b g1).2
  have hpl : of + cs.length ≤ arr.toList.length := by rw [hlu]; simp; omega
  have hnew := setRow_heap w b arr (patch arr.toList of cs).toArray E _ g4
  have hDb : ∀ c, (∃ k ∈ D, φ k c) → c ≠ b ∧ ¬ φ id c := by
    rintro c ⟨k, hk, hc⟩
    have : ¬ φ id c := fun hc' => by
      have := h.dj id k c hc' hc; subst this; exact hnd.1 hk
    exact ⟨fun e => this (e ▸ g1), this⟩
  have hFb : ∀ c, F' c → c ≠ b := fun c hc e => g2 (e ▸ hc)
  -- the elements behind
  obtain ⟨F1, hF1, hE1, k1⟩ := OwL_sub g8 (rdL_get hi)
  obtain ⟨y0, hy0⟩ := getT_some hsub (rdL xs i)
  obtain ⟨F2, hF2, hE2, k2⟩ := Ow_sub hE1 hy0
  have hOw : Ow (w.setRow b (patch arr.toList of cs).toArray) (.sl E e) (xs.set i.toNat z) [ρ id] (fun c => φ id c ∨ ∃ k ∈ D, φ k c) := by
    have hz := k2 (w.setRow b (patch arr.toList of cs).toArray) (((patch arr.toList of cs).drop (i.toNat * e.size)).take e.size) (fun c => ∃ k ∈ D, φ k c) v z hset
      (by simp only [List.length_take, List.length_drop, patch_len hpl])
      (fun k hk => by
        simp only [List.getElem?_take, List.getElem?_drop]
        split
        · exact patch_out hpl (by rw [hlu]; omega)
        · rfl)
      (fun c hc _ => hkeep c (hFb c (hF1 c hc)))
      (fun c hc hc1 => absurd (g3 c (hF1 c hc1)) (hDb c hc).2)
      (by
        have e1 : ((((patch arr.toList of cs).drop (i.toNat * e.size)).take e.size).drop (e.off p)).take S.size = cs := by
          have := patch_in (cs := arr.toList) (cu := cs) (o := of) hpl
          rw [hlu] at this
          rw [List.drop_take, List.take_take, Nat.min_eq_left (by omega), List.drop_drop, ← hof]; exact this
        rw [e1]
        exact Ow_world (fun c hc => hkeep c (hDb c hc).1) hOv)
    have hl := k1 (fun x c G => Ow (w.setRow b (patch arr.toList of cs).toArray) e x c G) (patch arr.toList of cs) _ z
      (fun x' c H hH _ hx => Ow_world (fun q hq => hkeep q (hFb q (hH q hq))) hx)
      (fun k hk => patch_out hpl (by rw [hlu]; omega))
      (fun c hc hc' => by
        rcases hc with ⟨hc, _⟩ | hc
        · exact hc
        · exact absurd (g3 c hc') (hDb c hc).2)
      hz
    refine .inr ⟨b, cc, (patch arr.toList of cs).toArray, _, by rw [hr, List.length_set], .inl g1, ?_, ?_, hnew, by rw [List.length_set]; exact g5, g6, by rw [List.size_toArray, patch_len hpl]; simpa using g7, hl⟩
    · rintro (⟨hc, _⟩ | ⟨hc, _⟩ | hc)
      · exact g2 hc
      · exact g2 (hF1 _ hc)
      · exact (hDb _ hc).1 rfl
    · rintro c (⟨hc, _⟩ | ⟨hc, _⟩ | hc)
      · exact .inl (g3 c hc)
      · exact .inl (g3 c (hF1 c hc))
      · exact .inr hc
  have hs1 := (h.scrub D).killN (bif S.flat then [] else [id])
  have ho1 : ((s.scrub D).killN (bif S.flat then [] else [id])).hp id = .arr E e xs := killN_arr (scrub_arr hob hnd.1)
  have hm : Sim (w.setRow b (patch arr.toList of cs).toArray) st ρ (fun j c => if j = id then φ id c ∨ ∃ k ∈ D, φ k c else φ j c ∧ j ∉ D) X.n a
      ⟨((s.scrub D).killN (bif S.flat then [] else [id])).env, updL ((s.scrub D).killN (bif S.flat then [] else [id])).hp [(id, .arr E e (xs.set i.toNat z))]⟩ := by
    refine hs1.upd (by simp) (fun _ h => h) (fun k hk => hkeep k (fun e => hstb (e ▸ hk))) (fun j hj => ?_) (by simp) (fun q hq => ?_) (fun _ => S.flat) (fun q hq hne => ?_) (fun q hq hf => ?_)
      (fun j k hk => ?_) (fun j j' k h1 h2 => ?_) (fun k hk => by simpa using h.stlt k hk) (by simp [Ob.ids])
    · have hne : j ≠ id := by simpa using hj
      refine ⟨rfl, by funext c; simp [hne], fun k hk => hkeep k (fun e => hne (h.dj j id k hk.1 (e ▸ g1)))⟩
    · simp at hq; subst hq
      show Ow _ (.sl E e) _ [ρ id] _
      exact Ow_up (fun c hc => by simpa using hc) hOw
    · simp at hq; subst hq
      simp only
      rw [ho1]
      refine ⟨rfl, ⟨rfl, rfl, by simp⟩, fun hf i' p' b' o' hp' hsl => ?_⟩
      obtain ⟨T1, e1, xs1, s1, l1, c1, q1, q2, q3, q4, q5, q6⟩ := hp'
      obtain ⟨T2, e2, q7⟩ := hsl _ _ _ rfl
      cases q1
      rw [hr] at q2; cases q2
      have hap := sub_apart hsub hf q7
      have hz2 := sub_size q7
      simp only [Sh.size] at hz2
      refine cell_setRow g4 (patch_out hpl ?_)
      rw [hlu]
      by_cases hii : i'.toNat = i.toNat
      · rw [hii] at q6; omega
      · have := seg_apart (sz := e.size) hii
        omega
    · simp at hq; subst hq
      have hf : S.flat = false := hf
      rw [hf]
      exact killN_nests (by simp)
    · by_cases hj : j = id
      · simp only [hj, if_true] at hk
        rcases hk with hk | ⟨m, hm, hk⟩
        · exact ⟨by simpa using (h.lt id k hk).1, (h.lt id k hk).2⟩
        · exact ⟨by simpa using (h.lt m k hk).1, (h.lt m k hk).2⟩
      · simp only [hj, if_false] at hk
        exact ⟨by simpa using (h.lt j k hk.1).1, (h.lt j k hk.1).2⟩
    · have key : ∀ j', j' ≠ id → (φ id k ∨ ∃ m ∈ D, φ m k) → φ j' k ∧ j' ∉ D → False := by
        rintro j' hj' (h1 | ⟨m, hm, h1⟩) ⟨h2, h3⟩
        · exact hj' (h.dj j' id k h2 h1)
        · have := h.dj m j' k h1 h2; subst this; exact h3 hm
      by_cases hj : j = id <;> by_cases hj' : j' = id
      · rw [hj, hj']
      · simp only [hj, if_true] at h1; simp only [hj', if_false] at h2
        exact (key j' hj' h1 h2).elim
      · simp only [hj', if_true] at h2; simp only [hj, if_false] at h1
        exact (key j hj h2 h1).elim
      · simp only [hj, hj', if_false] at h1 h2
        exact h.dj j j' k h1.1 h2.1
  refine ⟨.skip, undef, _, st, _, _, by simp [execOp, ho, ee, Instr.storeAt, Instr.sureAddr, hst], .inr ⟨rfl, rfl⟩, hm.put o.dst _ .unk (fun q hq => ?_) (RV_unk _) (by simp [AV.ids]), ?_⟩
  · rw [hq] at hd; simpa [dstOk, Nat.blt_eq] using hd
  · refine ⟨rfl, rfl, rfl, by simp, fun k hk hn => hkeep k (fun e => hn id (e ▸ g1)), fun _ h => h, fun _ h => .inl h, fun j k hk => ?_, fun j hp5 hn => ⟨?_, rfl⟩⟩
    · by_cases hj : j = id
      · simp only [hj, if_true] at hk
        rcases hk with hk | ⟨m, hm, hk⟩
        · exact .inl ⟨id, hk⟩
        · exact .inl ⟨m, hk⟩
      · simp only [hj, if_false] at hk; exact .inl ⟨j, hk.1⟩
    · have : (s.app o.dst ⟨c, .unk, [(id, .arr E e (xs.set i.toNat z))], D, bif S.flat then [] else [id]⟩).hp j = Go.Vm.upd ((s.scrub D).killN (bif S.flat then [] else [id])).hp id (.arr E e (xs.set i.toNat z)) j := by cases o.dst <;> rfl
      rw [this] at hn
      by_cases hj : j = id
      · rw [hj, hob]; simp
      · rw [upd_ne _ _ hj] at hn
        exact (scrub_live (killN_live hn)).1

theorem does_store (hA : TyAll P X) {T : TypeId} {x y : Operand} (ho : o.op = .store T x y) (h : Sim w st ρ φ X.n a s) (hd : dstOk X o.dst = true) (hle : Le hp s.hp) {S : Sh} {nf : Nat} (hT : X.ty T = some (S, nf)) {r : Res}
    (hr : storeAV hp S (rho X s.env 0 x) (rho X s.env T y) = some r) : Does P X o w st ρ φ a s r := by
  cases hx : rho X s.env 0 x with
  | ptr id ix p =>
    rw [hx] at hr
    cases ix with
    | none =>
      simp only [storeAV] at hr
      cases hq : hp id with
      | box S' u =>
        rw [hq] at hr; simp only at hr
        split at hr
        · rename_i hsub
          cases hf : fits hp S (rho X s.env T y) <;> rw [hf] at hr
          · cases hr
          simp only [cond_true] at hr
          cases hset : setA u p (rho X s.env T y) with
          | none => rw [hset] at hr; cases hr
          | some u' =>
            rw [hset] at hr; cases hr
            obtain ⟨hF, hnu⟩ := fits_Fit hle hf
            exact does_store_box hA ho h hd hT hx (hle.get hq (by simp)) hsub hF hnu hset
        · cases hr
      | _ => rw [hq] at hr; cases hr
    | some i =>
      simp only [storeAV] at hr
      cases hq : hp id with
      | arr E e xs =>
        rw [hq] at hr; simp only at hr
        split at hr
        · rename_i hsub
          cases hab : absorb hp S (rho X s.env T y) with
          | none => rw [hab] at hr; cases hr
          | some q =>
            obtain ⟨v, D⟩ := q
            rw [hab] at hr; simp only at hr
            cases hset : setT e (rdL xs i) p S v with
            | none => rw [hset] at hr; cases hr
            | some z =>
              rw [hset] at hr; simp only at hr
              cases hnd : nodup (id :: D) <;> rw [hnd] at hr
              · cases hr
              simp only [cond_true, Option.some.injEq] at hr
              subst hr
              exact does_store_arr hA ho h hd hle hT hx (hle.get hq (by simp)) hsub hab hset (nodup_iff.1 hnd) _
        · cases hr
      | _ => rw [hq] at hr; cases hr
  | _ => rw [hx] at hr; cases hr

end
end Go.Vm
