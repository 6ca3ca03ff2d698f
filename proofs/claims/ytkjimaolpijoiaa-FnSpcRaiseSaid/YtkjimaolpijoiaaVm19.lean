/- Regions that draw their order. -/
import Derived.Test.YtkjimaolpijoiaaVm18
set_option linter.unusedVariables false
set_option linter.unusedSimpArgs false
namespace Go.Vm

theorem flat_congr {α β : Type} {f g : α → List β} : ∀ {l : List α}, (∀ x ∈ l, f x = g x) → l.flatMap f = l.flatMap g
  | [], _ => rfl
  | x :: l, h => by rw [List.flatMap_cons, List.flatMap_cons, h x (by simp), flat_congr (fun y hy => h y (by simp [hy]))]

/-! ### An operation looks at its operands alone -/
theorem core_congr {X : Ctx} {o : Oper} {r r' : TypeId → Operand → AV} {hp : Nat → Ob} (h : ∀ T, ∀ x ∈ o.op.operands.toList, r T x = r' T x) : core X o r hp = core X o r' hp := by
  cases hop : o.op with
  | move x => simp only [core, hop]; rw [h o.type x (by simp [hop, Op.operands])]
  | assign x => simp only [core, hop]; rw [h o.type x (by simp [hop, Op.operands])]
  | pick c x y => simp only [core, hop]; rw [h 0 c (by simp [hop, Op.operands]), h o.type x (by simp [hop, Op.operands]), h o.type y (by simp [hop, Op.operands])]
  | alloc T => simp only [core, hop]
  | box T x => simp only [core, hop]; rw [h T x (by simp [hop, Op.operands])]
  | build T parts =>
    have : (parts.toList.map fun q => (q.1, r 0 q.2)) = parts.toList.map fun q => (q.1, r' 0 q.2) := List.map_congr_left fun q hq => by
      rw [h 0 q.2 (by simp only [hop, Op.operands]; exact List.mem_map.2 ⟨q, hq, rfl⟩)]
    simp only [core, hop, this]
  | buildSlice T n parts =>
    have : (parts.toList.map fun q => (q.1, r 0 q.2)) = parts.toList.map fun q => (q.1, r' 0 q.2) := List.map_congr_left fun q hq => by
      rw [h 0 q.2 (by simp only [hop, Op.operands]; exact List.mem_map.2 ⟨q, hq, rfl⟩)]
    simp only [core, hop, this]
  | load T x => simp only [core, hop]; rw [h 0 x (by simp [hop, Op.operands])]
  | store T x y => simp only [core, hop]; rw [h 0 x (by simp [hop, Op.operands]), h T y (by simp [hop, Op.operands])]
  | nilCheck x => simp only [core, hop]; rw [h 0 x (by simp [hop, Op.operands])]
  | binOp op T x y T' => simp only [core, hop]; rw [h T x (by simp [hop, Op.operands]), h T y (by simp [hop, Op.operands])]
  | unOp op T x => simp only [core, hop]; rw [h 0 x (by simp [hop, Op.operands])]
  | convert src dst x => simp only [core, hop]; rw [h 0 x (by simp [hop, Op.operands])]
  | makeFunc fn first caps =>
    have : (caps.toList.map fun x => r 0 x) = caps.toList.map fun x => r' 0 x := List.map_congr_left fun x hx => h 0 x (by simp [hop, Op.operands]; right; simpa using hx)
    simp only [core, hop, this]
  | makeSlice T x y => simp only [core, hop]; rw [h 0 x (by simp [hop, Op.operands]), h 0 y (by simp [hop, Op.operands])]
  | slice T x lo hi mx =>
    have e1 : lo.map (r 0) = lo.map (r' 0) := by
      cases lo with
      | none => rfl
      | some y => simp only [Option.map_some]; rw [h 0 y (by simp [hop, Op.operands])]
    have e2 : hi.map (r 0) = hi.map (r' 0) := by
      cases hi with
      | none => rfl
      | some y => simp only [Option.map_some]; rw [h 0 y (by simp [hop, Op.operands])]
    have e3 : mx.map (r 0) = mx.map (r' 0) := by
      cases mx with
      | none => rfl
      | some y => simp only [Option.map_some]; rw [h 0 y (by simp [hop, Op.operands])]
    simp only [core, hop, e1, e2, e3]; rw [h 0 x (by simp [hop, Op.operands])]
  | fieldAddr T x f => simp only [core, hop]; rw [h 0 x (by simp [hop, Op.operands])]
  | field T x f => simp only [core, hop]; rw [h 0 x (by simp [hop, Op.operands])]
  | indexAddr T x y => simp only [core, hop]; rw [h 0 x (by simp [hop, Op.operands]), h 0 y (by simp [hop, Op.operands])]
  | index T x y => simp only [core, hop]; rw [h 0 x (by simp [hop, Op.operands]), h 0 y (by simp [hop, Op.operands])]
  | extract x i => simp only [core, hop]; rw [h 0 x (by simp [hop, Op.operands])]
  | call c =>
    have ha : ∀ x ∈ c.args.toList, ∀ T, r T x = r' T x := fun x hx T => h T x (by simp [hop, Op.operands, Call.operands]; right; simpa using hx)
    simp only [core, hop]
    cases hcal : c.callee with
    | builtin b =>
      cases b with
      | len =>
        simp only
        cases hargs : c.args.toList with
        | nil => rfl
        | cons x l =>
          cases l with
          | nil =>
            cases hT : c.argTypes.toList with
            | nil => rfl
            | cons T1 l => simp only [ha x (by simp [hargs]) 0]
          | cons _ _ => rfl
      | append =>
        simp only
        cases hargs : c.args.toList with
        | nil => rfl
        | cons x l =>
          cases l with
          | nil => rfl
          | cons y l =>
            cases l with
            | nil =>
              cases hT : c.argTypes.toList with
              | nil => rfl
              | cons T1 l =>
                cases l with
                | nil => rfl
                | cons T2 l =>
                  cases l with
                  | nil =>
                    cases o.dst with
                    | none => rfl
                    | some d => simp only [ha x (by simp [hargs]) T1, ha y (by simp [hargs]) T1]
                  | cons _ _ => rfl
            | cons _ _ => rfl
      | _ => rfl
    | value f =>
      have hf : r 0 f = r' 0 f := h 0 f (by simp [hop, Op.operands, Call.operands, hcal])
      have hm : (c.args.toList.map fun x => r 0 x) = c.args.toList.map fun x => r' 0 x := List.map_congr_left fun x hx => ha x hx 0
      simp only [hf, hm]
    | _ => rfl
  | _ => simp only [core, hop]

/-- The parts of a state that an operation looks at. -/
def View (π : AV → AV) (L : List Nat) (T : List Nat) (s s' : St) : Prop := (∀ t ∈ T, π (s'.env t) = π (s.env t)) ∧ ∀ id ∈ L, s'.hp id = s.hp id

/-- Is it the taking of a part of a tuple? -/
def isExt : Op → Bool
  | .extract _ _ => true
  | _ => false

theorem pj_id {op : Op} (h : isExt op = false) {v : AV} : pj op v = v := by
  cases op <;> first | rfl | cases h

theorem mem_looks {ops : Array Oper} {o : Oper} {t : Nat} (h : Operand.tmp t ∈ o.op.operands.toList) : t ∈ o.looksAt ops := by
  unfold Oper.looksAt
  rw [List.mem_append]
  exact .inl (List.mem_filterMap.2 ⟨_, h, rfl⟩)

theorem rho_view {X : Ctx} {ops : Array Oper} {o : Oper} {L : List Nat} {s s' : St} (hv : View (pj o.op) L (o.looksAt ops) s s') (hx : isExt o.op = false) : ∀ T, ∀ x ∈ o.op.operands.toList, rho X s'.env T x = rho X s.env T x := by
  intro T x hxo
  cases x with
  | tmp t =>
    have := hv.1 t (mem_looks hxo)
    rwa [pj_id hx, pj_id hx] at this
  | _ => rfl

theorem foot_view {X : Ctx} {ops : Array Oper} {o : Oper} {L : List Nat} {s s' : St} (hv : View (pj o.op) L (o.looksAt ops) s s') (hL : ∀ id ∈ foot X s o, id ∈ L) : foot X s' o = foot X s o := by
  have e1 : argIds X s'.env o = argIds X s.env o := by
    unfold argIds
    cases hx : isExt o.op
    · congr 1
      exact flat_congr fun x hxo => by
        have := rho_view (X := X) hv hx 0 x hxo
        unfold rho at this
        rw [this]
    · have : Op.isMove o.op = true := by
        cases hop : o.op <;> rw [hop] at hx <;> first | rfl | cases hx
      rw [this]; rfl
  unfold foot
  simp only [e1]
  congr 1
  exact flat_congr fun id hid => by rw [hv.2 id (hL id (by unfold foot; simp only [List.mem_append]; exact .inl hid))]

theorem newOk_view {l : List Nat} {s s' : St} : ∀ {up : List (Nat × Ob)}, (∀ id ∈ up.map (·.1), s'.hp id = s.hp id) → newOk s' l up = newOk s l up
  | [], _ => rfl
  | u :: r, h => by
    simp only [newOk]
    rw [h u.1 (by simp), newOk_view (up := r) (fun id hid => h id (by simp only [List.map_cons, List.mem_cons]; exact .inr hid))]

theorem step_view {X : Ctx} {ops : Array Oper} {o : Oper} {s s' : St} {r : Res} (hv : View (pj o.op) (foot X s o ++ r.up.map (·.1)) (o.looksAt ops) s s') (hc : core X o (rho X s.env) (restr s.hp (foot X s o)) = some r) (hs : step X o s = some (true, s.app o.dst r)) :
    step X o s' = some (true, s'.app o.dst r) := by
  have e1 := foot_view (X := X) hv (fun id hid => by simp [hid])
  have e2 : restr s'.hp (foot X s o) = restr s.hp (foot X s o) := by
    funext id
    unfold restr
    cases hm : mem id (foot X s o)
    · rfl
    · simp only [cond_true]
      exact hv.2 id (by simp [mem_iff.1 hm])
  have e3 : core X o (rho X s'.env) (restr s'.hp (foot X s' o)) = some r := by
    rw [e1, e2]
    cases hx : isExt o.op
    · rw [core_congr (rho_view hv hx)]; exact hc
    · cases hop : o.op with
      | extract x i =>
        simp only [core, hop] at hc ⊢
        have hq : (extractAV (rho X s'.env 0 x) i).getD .tnil = (extractAV (rho X s.env 0 x) i).getD .tnil := by
          cases x with
          | tmp t =>
            have := hv.1 t (mem_looks (by simp [hop, Op.operands]))
            rw [hop] at this
            exact this
          | _ => rfl
        cases h1 : extractAV (rho X s.env 0 x) i with
        | none => rw [h1] at hc; cases hc
        | some v =>
          rw [h1] at hc hq
          cases h2 : extractAV (rho X s'.env 0 x) i with
          | none =>
            rw [h2] at hq
            have hq : AV.tnil = v := hq
            subst hq
            cases hc
          | some v' =>
            rw [h2] at hq
            have hq : v' = v := hq
            subst hq
            exact hc
      | _ => rw [hop] at hx; cases hx
  have e4 : newOk s' (foot X s o) r.up = newOk s (foot X s o) r.up := newOk_view fun id hid => hv.2 id (by simp only [List.mem_append]; exact .inr hid)
  unfold step at hs ⊢
  simp only [hc] at hs
  simp only [e3]
  rw [e1, e4]
  cases hcond : (dstOk X o.dst && newOk s (foot X s o) r.up && nodup (r.up.map (·.1)) && disj (r.up.map (·.1)) r.dr && subl r.dr (foot X s o)) <;> rw [hcond] at hs
  · cases hs
  · simp only [cond_true, Option.some.injEq, Prod.mk.injEq] at hs ⊢
    exact ⟨hs.1, trivial⟩

/-- The slot of an operation's guard. -/
def gdOf (ops : Array Oper) (o : Oper) : List Nat :=
  match o.guard with
  | none => []
  | some (j, _) => match opDst ops j with
    | some t => [t]
    | none => []

theorem gd_looks {ops : Array Oper} {o : Oper} {t : Nat} (h : t ∈ gdOf ops o) : t ∈ o.looksAt ops := by
  unfold gdOf at h
  cases hg : o.guard with
  | none => rw [hg] at h; cases h
  | some p =>
    obtain ⟨j, want⟩ := p
    rw [hg] at h; simp only at h
    cases ho : opDst ops j with
    | none => rw [ho] at h; cases h
    | some t' =>
      rw [ho] at h
      simp at h; subst h
      unfold Oper.looksAt
      rw [List.mem_append]
      right
      unfold opDst at ho
      simp [hg, ho]

theorem wanted_view {ops : Array Oper} {o : Oper} {s s' : St} (hv : ∀ t ∈ gdOf ops o, s'.env t = s.env t) : wantedA ops o s' = wantedA ops o s := by
  unfold wantedA
  cases hg : o.guard with
  | none => rfl
  | some p =>
    obtain ⟨j, want⟩ := p
    simp only
    cases ho : opDst ops j with
    | none => rfl
    | some t => simp only [hv t (by unfold gdOf; rw [hg]; simp [ho])]

/-- A guard's slot holds a bool, or nothing, where it is known what is wanted. -/
theorem wanted_bool {ops : Array Oper} {o : Oper} {s : St} {W : Bool} (h : wantedA ops o s = some W) : ∀ t ∈ gdOf ops o, (s.env t).whole = true ∧ (s.env t).ids = [] := by
  intro t ht
  unfold wantedA at h
  unfold gdOf at ht
  cases hg : o.guard with
  | none => rw [hg] at ht; cases ht
  | some p =>
    obtain ⟨j, want⟩ := p
    rw [hg] at h ht; simp only at h ht
    cases ho : opDst ops j with
    | none => rw [ho] at ht; cases ht
    | some t' =>
      rw [ho] at h ht; simp only at h
      simp at ht; subst ht
      split at h
      · rename_i hb; rw [hb]; exact ⟨rfl, rfl⟩
      · rename_i hb; rw [hb]; exact ⟨rfl, rfl⟩
      · cases h

/-! ### What is done, one after the other -/
structure En where
  o : Oper
  W : Bool
  r : Res
  s : St
  f : Info

def En.run (e : En) (s : St) : St := bif e.W then s.app e.o.dst e.r else s.put e.o.dst .tnil

def EnOk (X : Ctx) (ops : Array Oper) (i : Nat) (e : En) : Prop :=
  wantedA ops e.o e.s = some e.W ∧ e.f.o = e.o ∧ e.f.i = i ∧ dstOk X e.o.dst = true ∧
  (e.W = true → step X e.o e.s = some (true, e.s.app e.o.dst e.r) ∧ core X e.o (rho X e.s.env) (restr e.s.hp (foot X e.s e.o)) = some e.r ∧ e.f.foot = foot X e.s e.o ∧ e.f.w = e.r.up.map (·.1) ∧ e.f.tk = e.r.dr ++ e.r.nk ∧ e.f.res = resOf e.r ∧
    (e.f.cl = true → (∀ t ∈ e.o.looksAt ops, (pj e.o.op (e.s.env t)).whole = true) ∧ ∀ id ∈ foot X e.s e.o, (e.s.hp id).whole = true) ∧
    e.f.tch = lkOf ops e.o e.s ++ (foot X e.s e.o ++ (((foot X e.s e.o).flatMap fun id => (e.s.hp id).ids) ++ resOf e.r)))

theorem updL_same {α : Type} {f g : Nat → α} {id : Nat} : ∀ {l : List (Nat × α)}, f id = g id → updL f l id = updL g l id := by
  intro l
  induction l generalizing f g with
  | nil => exact fun h => h
  | cons x l ih =>
    intro h
    refine ih ?_
    unfold Go.Vm.upd
    rw [h]

/-! ### What is taken away -/
theorem AV.scrub_id {D : List Nat} : ∀ {v : AV}, (∀ id ∈ v.ids, id ∉ D) → v.scrub D = v
  | .pair a b, h => by simp only [AV.scrub]; rw [scrub_id fun id hid => h id (by simp [AV.ids, hid]), scrub_id fun id hid => h id (by simp [AV.ids, hid])]
  | .tcons a b, h => by simp only [AV.scrub]; rw [scrub_id fun id hid => h id (by simp [AV.ids, hid]), scrub_id fun id hid => h id (by simp [AV.ids, hid])]
  | .ptr id ix p, h => by simp only [AV.scrub]; rw [mem_false.2 (h id (by simp [AV.ids]))]; rfl
  | .sref id ix p, h => by simp only [AV.scrub]; rw [mem_false.2 (h id (by simp [AV.ids]))]; rfl
  | .fn f caps, h => by
    simp only [AV.scrub]
    rw [disj_iff.2 fun id hid => h id (by simpa [AV.ids] using hid)]; rfl
  | .unk, _ => rfl
  | .val _ _, _ => rfl
  | .nilv _ _, _ => rfl
  | .iptr _ _, _ => rfl
  | .nq _, _ => rfl
  | .tnil, _ => rfl

theorem AV.killN_id {D : List Nat} : ∀ {v : AV}, (∀ id ∈ v.ids, id ∉ D) → v.killN D = v
  | .pair a b, h => by simp only [AV.killN]; rw [killN_id fun id hid => h id (by simp [AV.ids, hid]), killN_id fun id hid => h id (by simp [AV.ids, hid])]
  | .tcons a b, h => by simp only [AV.killN]; rw [killN_id fun id hid => h id (by simp [AV.ids, hid]), killN_id fun id hid => h id (by simp [AV.ids, hid])]
  | .sref id none p, h => rfl
  | .sref id (some i) p, h => by simp only [AV.killN]; rw [mem_false.2 (h id (by simp [AV.ids]))]; rfl
  | .ptr _ _ _, _ => rfl
  | .fn _ _, _ => rfl
  | .unk, _ => rfl
  | .val _ _, _ => rfl
  | .nilv _ _, _ => rfl
  | .iptr _ _, _ => rfl
  | .nq _, _ => rfl
  | .tnil, _ => rfl

/-- One way to take away: scrub (true) or killN. -/
def AV.tkB (k : Bool) (D : List Nat) (v : AV) : AV := bif k then v.scrub D else v.killN D

theorem AV.tkB_id {k : Bool} {D : List Nat} {v : AV} (h : ∀ id ∈ v.ids, id ∉ D) : v.tkB k D = v := by
  cases k
  · exact AV.killN_id h
  · exact AV.scrub_id h

theorem AV.tkB_comm {k m : Bool} {D E : List Nat} : ∀ {v : AV}, (v.tkB k D).tkB m E = (v.tkB m E).tkB k D := by
  intro v
  induction v with
  | pair a b iha ihb => cases k <;> cases m <;> simp only [AV.tkB, cond_true, cond_false, AV.scrub, AV.killN] at iha ihb ⊢ <;> rw [iha, ihb]
  | tcons a b iha ihb => cases k <;> cases m <;> simp only [AV.tkB, cond_true, cond_false, AV.scrub, AV.killN] at iha ihb ⊢ <;> rw [iha, ihb]
  | ptr id ix p =>
    cases k <;> cases m <;> simp only [AV.tkB, cond_true, cond_false, AV.scrub, AV.killN] <;> cases h1 : mem id D <;> cases h2 : mem id E <;> simp [AV.scrub, AV.killN, h1, h2]
  | sref id ix p =>
    cases ix <;> cases k <;> cases m <;> simp only [AV.tkB, cond_true, cond_false, AV.scrub, AV.killN] <;> cases h1 : mem id D <;> cases h2 : mem id E <;> simp [AV.scrub, AV.killN, h1, h2]
  | fn f caps =>
    cases k <;> cases m <;> simp only [AV.tkB, cond_true, cond_false, AV.scrub, AV.killN] <;> cases h1 : disj caps D <;> cases h2 : disj caps E <;> simp [AV.scrub, AV.killN, h1, h2]
  | _ => cases k <;> cases m <;> rfl

theorem AV.tkB_whole {k : Bool} {D : List Nat} : ∀ {v : AV}, (v.tkB k D).whole = true → v.tkB k D = v := by
  intro v
  induction v with
  | pair a b iha ihb =>
    intro h
    cases k <;> simp only [AV.tkB, cond_true, cond_false, AV.scrub, AV.killN, AV.whole, Bool.and_eq_true] at iha ihb h ⊢ <;> rw [iha h.1, ihb h.2]
  | tcons a b iha ihb =>
    intro h
    cases k <;> simp only [AV.tkB, cond_true, cond_false, AV.scrub, AV.killN, AV.whole, Bool.and_eq_true] at iha ihb h ⊢ <;> rw [iha h.1, ihb h.2]
  | ptr id ix p =>
    intro h
    cases k <;> simp only [AV.tkB, cond_true, cond_false, AV.scrub, AV.killN] at h ⊢
    cases hm : mem id D <;> rw [hm] at h <;> first | rfl | cases h
  | sref id ix p =>
    intro h
    cases ix <;> cases k <;> simp only [AV.tkB, cond_true, cond_false, AV.scrub, AV.killN] at h ⊢
    all_goals (cases hm : mem id D <;> rw [hm] at h <;> first | rfl | cases h)
  | fn f caps =>
    intro h
    cases k <;> simp only [AV.tkB, cond_true, cond_false, AV.scrub, AV.killN] at h ⊢
    cases hm : disj caps D <;> rw [hm] at h <;> first | rfl | cases h
  | _ => intro h; cases k <;> rfl

def Ob.tkB (k : Bool) (D : List Nat) (id : Nat) (o : Ob) : Ob := bif k && mem id D then .none else o.mapA (AV.tkB k D)

theorem Ob.tkB_id {k : Bool} {D : List Nat} {id : Nat} {o : Ob} (h : id ∉ D) (ho : ∀ j ∈ o.ids, j ∉ D) : o.tkB k D id = o := by
  unfold Ob.tkB
  rw [mem_false.2 h, Bool.and_false]
  cases o with
  | box S v => exact congrArg (Ob.box S) (AV.tkB_id ho)
  | _ => rfl

theorem Ob.tkB_none {k : Bool} {D : List Nat} {id : Nat} : (Ob.none).tkB k D id = .none := by
  unfold Ob.tkB; cases (k && mem id D) <;> rfl

theorem Ob.tkB_comm {k m : Bool} {D E : List Nat} {id : Nat} {o : Ob} : (o.tkB k D id).tkB m E id = (o.tkB m E id).tkB k D id := by
  cases h1 : (k && mem id D) <;> cases h2 : (m && mem id E) <;> simp only [Ob.tkB, h1, h2, cond_true, cond_false]
  · cases o with
    | box S v => exact congrArg (Ob.box S) AV.tkB_comm
    | _ => rfl
  · rfl
  · rfl

theorem Ob.tkB_whole {k : Bool} {D : List Nat} {id : Nat} {o : Ob} (h : (o.tkB k D id).whole = true) : o.tkB k D id = o := by
  unfold Ob.tkB at h ⊢
  cases h1 : (k && mem id D) <;> rw [h1] at h
  · cases o with
    | box S v => exact congrArg (Ob.box S) (AV.tkB_whole h)
    | _ => rfl
  · cases h

theorem tkB_nil {k : Bool} {v : AV} : v.tkB k [] = v := AV.tkB_id (fun _ _ h => by cases h)
theorem otkB_nil {k : Bool} {id : Nat} {o : Ob} : o.tkB k [] id = o := Ob.tkB_id (fun h => by cases h) (fun _ _ h => by cases h)

theorem scrub_envE {D : List Nat} {s : St} {t : Nat} : (s.scrub D).env t = (s.env t).tkB true D := by
  cases D with
  | nil => exact tkB_nil.symm
  | cons x D => rfl
theorem scrub_hpE {D : List Nat} {s : St} {id : Nat} : (s.scrub D).hp id = (s.hp id).tkB true D id := by
  cases D with
  | nil => exact otkB_nil.symm
  | cons x D => rfl
theorem killN_envE {D : List Nat} {s : St} {t : Nat} : (s.killN D).env t = (s.env t).tkB false D := by
  cases D with
  | nil => exact tkB_nil.symm
  | cons x D => rfl
theorem killN_hpE {D : List Nat} {s : St} {id : Nat} : (s.killN D).hp id = (s.hp id).tkB false D id := by
  cases D with
  | nil => exact otkB_nil.symm
  | cons x D => rfl

def En.dr (e : En) : List Nat := bif e.W then e.r.dr else []
def En.nk (e : En) : List Nat := bif e.W then e.r.nk else []
def En.ups (e : En) : List (Nat × Ob) := bif e.W then e.r.up else []
def En.val (e : En) : AV := bif e.W then e.r.v else .tnil
def En.tk (e : En) : List Nat := e.dr ++ e.nk

theorem put_hp {s : St} {dst : Option Nat} {v : AV} : (s.put dst v).hp = s.hp := by cases dst <;> rfl

theorem En.run_envE (e : En) {s : St} {t : Nat} : (e.run s).env t = if e.o.dst = some t then e.val else ((s.env t).tkB true e.dr).tkB false e.nk := by
  have hput : ∀ (s : St) (v : AV), (s.put e.o.dst v).env t = if e.o.dst = some t then v else s.env t := fun s v => by
    cases hd : e.o.dst with
    | none => simp [St.put]
    | some d =>
      by_cases h : d = t
      · subst h; simp only [if_true]; exact upd_same _ _ _
      · rw [if_neg (by simpa using h)]; exact upd_ne _ _ (fun h' => h h'.symm)
  unfold En.run En.val En.dr En.nk
  cases e.W
  · simp only [cond_false, tkB_nil]; exact hput _ _
  · simp only [cond_true]
    refine (hput _ _).trans ?_
    show (if _ then _ else ((s.scrub e.r.dr).killN e.r.nk).env t) = _
    rw [killN_envE, scrub_envE]

theorem En.run_hpE (e : En) {s : St} {id : Nat} : (e.run s).hp id = updL (fun id => ((s.hp id).tkB true e.dr id).tkB false e.nk id) e.ups id := by
  unfold En.run En.ups En.dr En.nk
  cases e.W
  · simp only [cond_false, otkB_nil]
    show (s.put _ _).hp id = _
    rw [put_hp]; rfl
  · simp only [cond_true]
    show (St.put _ _ _).hp id = _
    rw [put_hp]
    refine updL_same ?_
    rw [killN_hpE, scrub_hpE]

theorem ext_tkB {k : Bool} {D : List Nat} : ∀ {v : AV} {i : Nat}, extractAV (v.tkB k D) i = (extractAV v i).map (AV.tkB k D) := by
  intro v
  induction v with
  | tcons a b iha ihb =>
    intro i
    cases i with
    | zero => cases k <;> rfl
    | succ i => cases k <;> exact ihb
  | ptr id ix p => intro i; cases k <;> simp only [AV.tkB, cond_true, cond_false, AV.scrub, AV.killN] <;> (try cases mem id D) <;> rfl
  | sref id ix p => intro i; cases ix <;> cases k <;> simp only [AV.tkB, cond_true, cond_false, AV.scrub, AV.killN] <;> (try cases mem id D) <;> rfl
  | fn f caps => intro i; cases k <;> simp only [AV.tkB, cond_true, cond_false, AV.scrub, AV.killN] <;> (try cases disj caps D) <;> rfl
  | _ => intro i; cases k <;> rfl

theorem pj_tkB {op : Op} {k : Bool} {D : List Nat} {v : AV} : pj op (v.tkB k D) = (pj op v).tkB k D := by
  cases op with
  | extract x i =>
    simp only [pj]
    rw [ext_tkB]
    cases extractAV v i with
    | none => cases k <;> rfl
    | some u => rfl
  | _ => rfl

/-- It leaves a slot as it is. -/
theorem En.gen_env (e : En) {op : Op} {s : St} {t : Nat} (ht : e.o.dst ≠ some t) (hi : ∀ id ∈ (pj op (s.env t)).ids, id ∉ e.tk) : pj op ((e.run s).env t) = pj op (s.env t) := by
  rw [e.run_envE, if_neg ht, pj_tkB, pj_tkB, AV.tkB_id (fun id hid h => hi id hid (by unfold En.tk; simp [h])), AV.tkB_id (fun id hid h => hi id hid (by unfold En.tk; simp [h]))]

theorem En.gen_hp (e : En) {s : St} {id : Nat} (hid : id ∉ e.ups.map (·.1)) (hi : id ∉ e.tk) (hj : ∀ j ∈ (s.hp id).ids, j ∉ e.tk) : (e.run s).hp id = s.hp id := by
  rw [e.run_hpE, updL_not _ _ hid, Ob.tkB_id (k := true) (fun h => hi (by unfold En.tk; simp [h])) (fun j hjj h => hj j hjj (by unfold En.tk; simp [h])),
    Ob.tkB_id (fun h => hi (by unfold En.tk; simp [h])) (fun j hjj h => hj j hjj (by unfold En.tk; simp [h]))]

theorem updL_val {f g : Nat → Ob} {id : Nat} : ∀ {l : List (Nat × Ob)}, id ∈ l.map (·.1) → ∃ q ∈ l, q.1 = id ∧ updL f l id = q.2 ∧ updL g l id = q.2
  | [], h => by simp at h
  | x :: l, h => by
    by_cases hl : id ∈ l.map (·.1)
    · obtain ⟨q, h1, h2, h3, h4⟩ := updL_val (f := Go.Vm.upd f x.1 x.2) (g := Go.Vm.upd g x.1 x.2) hl
      exact ⟨q, by simp [h1], h2, h3, h4⟩
    · simp only [List.map_cons, List.mem_cons] at h
      have hx : id = x.1 := h.resolve_right hl
      refine ⟨x, by simp, hx.symm, ?_, ?_⟩
      · show updL (Go.Vm.upd f x.1 x.2) l id = _
        rw [updL_not _ _ hl, hx]; exact upd_same _ _ _
      · show updL (Go.Vm.upd g x.1 x.2) l id = _
        rw [updL_not _ _ hl, hx]; exact upd_same _ _ _

/-- What its results lead to. -/
def En.res (e : En) : List Nat := e.ups.map (·.1) ++ ((e.ups.flatMap fun q => q.2.ids) ++ e.val.ids)

theorem En.comm (e f : En) (he : ∀ id ∈ e.tk, id ∉ f.res) (hf : ∀ id ∈ f.tk, id ∉ e.res) (hd : ∀ d, e.o.dst = some d → f.o.dst ≠ some d) (hk : ∀ id ∈ e.ups.map (·.1), id ∉ f.ups.map (·.1)) (s : St) : e.run (f.run s) = f.run (e.run s) := by
  have hval : ∀ (a b : En), (∀ id ∈ a.tk, id ∉ b.res) → (b.val.tkB true a.dr).tkB false a.nk = b.val := fun a b h => by
    have key : ∀ id ∈ b.val.ids, id ∉ a.tk := fun id hid hin => h id hin (by unfold En.res; simp [hid])
    rw [AV.tkB_id (fun id hid h => key id hid (by unfold En.tk; simp [h])), AV.tkB_id (fun id hid h => key id hid (by unfold En.tk; simp [h]))]
  have hob : ∀ (a b : En), (∀ id ∈ a.tk, id ∉ b.res) → ∀ q ∈ b.ups, (q.2.tkB true a.dr q.1).tkB false a.nk q.1 = q.2 := fun a b h q hq => by
    have k1 : q.1 ∉ a.tk := fun hin => h _ hin (by unfold En.res; simp only [List.mem_append]; exact .inl (List.mem_map.2 ⟨q, hq, rfl⟩))
    have k2 : ∀ j ∈ q.2.ids, j ∉ a.tk := fun j hj hin => h _ hin (by unfold En.res; simp only [List.mem_append, List.mem_flatMap]; exact .inr (.inl ⟨q, hq, hj⟩))
    rw [Ob.tkB_id (fun h => k1 (by unfold En.tk; simp [h])) (fun j hj h => k2 j hj (by unfold En.tk; simp [h])), Ob.tkB_id (fun h => k1 (by unfold En.tk; simp [h])) (fun j hj h => k2 j hj (by unfold En.tk; simp [h]))]
  have h1 : (e.run (f.run s)).env = (f.run (e.run s)).env := by
    funext t
    rw [e.run_envE, f.run_envE, f.run_envE, e.run_envE]
    by_cases h1 : e.o.dst = some t
    · rw [if_pos h1, if_neg (hd t h1), if_pos h1, hval f e hf]
    · by_cases h2 : f.o.dst = some t
      · rw [if_neg h1, if_pos h2, if_pos h2, hval e f he]
      · rw [if_neg h1, if_neg h2, if_neg h2, if_neg h1]
        rw [AV.tkB_comm (k := false) (m := true), AV.tkB_comm (k := true) (m := true), AV.tkB_comm (k := false) (m := false), AV.tkB_comm (v := (s.env t).tkB true e.dr) (k := true) (m := false)]
  have h2 : (e.run (f.run s)).hp = (f.run (e.run s)).hp := by
    funext id
    rw [e.run_hpE, f.run_hpE]
    by_cases h1 : id ∈ e.ups.map (·.1)
    · have h2 := hk id h1
      rw [updL_not f.ups _ h2, e.run_hpE]
      obtain ⟨q, q1, q2, q3, q4⟩ := updL_val (f := fun id => (((f.run s).hp id).tkB true e.dr id).tkB false e.nk id) (g := fun id => ((s.hp id).tkB true e.dr id).tkB false e.nk id) h1
      rw [q3, q4, ← q2, hob f e hf q q1]
    · rw [updL_not e.ups _ h1, f.run_hpE]
      by_cases h2 : id ∈ f.ups.map (·.1)
      · obtain ⟨q, q1, q2, q3, q4⟩ := updL_val (f := fun id => ((s.hp id).tkB true f.dr id).tkB false f.nk id) (g := fun id => (((e.run s).hp id).tkB true f.dr id).tkB false f.nk id) h2
        rw [q3, q4, ← q2, hob e f he q q1]
      · rw [updL_not f.ups _ h2, updL_not f.ups _ h2, e.run_hpE, updL_not e.ups _ h1]
        rw [Ob.tkB_comm (k := false) (m := true), Ob.tkB_comm (k := true) (m := true), Ob.tkB_comm (k := false) (m := false), Ob.tkB_comm (o := (s.hp id).tkB true e.dr id) (k := true) (m := false)]
  cases h3 : e.run (f.run s)
  cases h4 : f.run (e.run s)
  rw [h3, h4] at h1 h2
  simp only at h1 h2
  rw [h1, h2]

/-- Those of S are done. -/
def prodS (S : Nat → Bool) : List En → Nat → St → St
  | [], _, s => s
  | e :: es, i, s => prodS S es (i + 1) (bif S i then e.run s else s)

def Chain : List En → St → St → Prop
  | [], s, s' => s = s'
  | e :: es, s, s' => e.s = s ∧ Chain es (e.run s) s'

theorem prodS_all {S : Nat → Bool} : ∀ {es : List En} {i : Nat} {s s' : St}, Chain es s s' → (∀ k, i ≤ k → k < i + es.length → S k = true) → prodS S es i s = s'
  | [], i, s, s', h, _ => h
  | e :: es, i, s, s', h, hS => by
    simp only [prodS]
    rw [hS i (Nat.le_refl _) (by simp)]
    exact prodS_all h.2 (fun k h1 h2 => hS k (by omega) (by simp only [List.length_cons]; omega))

/-- It leaves what is looked at as it is. -/
def En.Gent (e : En) (op : Op) (L T : List Nat) (s0 : St) : Prop :=
  (∀ t ∈ T, e.o.dst ≠ some t) ∧ (∀ id ∈ L, id ∉ e.ups.map (·.1)) ∧ (∀ t ∈ T, ∀ id ∈ (pj op (s0.env t)).ids, id ∉ e.tk) ∧ ∀ id ∈ L, id ∉ e.tk ∧ ∀ j ∈ (s0.hp id).ids, j ∉ e.tk

/-- Behind e_j's place: what is done there does not touch what it looks at. -/
theorem view_after {S : Nat → Bool} {op : Op} {L T : List Nat} {s0 : St} : ∀ {es : List En} {i : Nat} {s : St}, View (pj op) L T s0 s →
    (∀ k e, es[k]? = some e → S (i + k) = true → e.Gent op L T s0) → View (pj op) L T s0 (prodS S es i s)
  | [], i, s, h, _ => h
  | e :: es, i, s, h, hS => by
    simp only [prodS]
    refine view_after ?_ (fun k e' hk hSk => hS (k + 1) e' (by simpa using hk) (by rw [show i + (k + 1) = i + 1 + k by omega]; exact hSk))
    cases hSi : S i
    · exact h
    · obtain ⟨h1, h2, h3, h4⟩ := hS 0 e rfl (by simpa using hSi)
      refine ⟨fun t ht => ?_, fun id hid => ?_⟩
      · rw [cond_true, e.gen_env (h1 t ht) (by rw [h.1 t ht]; exact h3 t ht)]; exact h.1 t ht
      · rw [cond_true, e.gen_hp (h2 id hid) (h4 id hid).1 (by rw [h.2 id hid]; exact (h4 id hid).2)]; exact h.2 id hid

/-- The first is the second, but for what was taken away. -/
inductive Fil : AV → AV → Prop where
  | refl (v : AV) : Fil v v
  | tk {v v' : AV} (k : Bool) (D : List Nat) : Fil v v' → Fil (v.tkB k D) v'

theorem Fil.both {k : Bool} {D : List Nat} {v v' : AV} (h : Fil v v') : Fil (v.tkB k D) (v'.tkB k D) := by
  induction h with
  | refl v => exact .refl _
  | tk m E _ ih => rw [AV.tkB_comm]; exact .tk m E ih

theorem Fil.whole {v v' : AV} (h : Fil v v') (hw : v.whole = true) : v = v' := by
  induction h with
  | refl v => rfl
  | tk m E _ ih =>
    have := AV.tkB_whole hw
    rw [this] at hw ⊢
    exact ih hw

inductive FilO (id : Nat) : Ob → Ob → Prop where
  | refl (v : Ob) : FilO id v v
  | tk {v v' : Ob} (k : Bool) (D : List Nat) : FilO id v v' → FilO id (v.tkB k D id) v'

theorem FilO.both {id : Nat} {k : Bool} {D : List Nat} {v v' : Ob} (h : FilO id v v') : FilO id (v.tkB k D id) (v'.tkB k D id) := by
  induction h with
  | refl v => exact .refl _
  | tk m E _ ih => rw [Ob.tkB_comm]; exact .tk m E ih

theorem FilO.whole {id : Nat} {v v' : Ob} (h : FilO id v v') (hw : v.whole = true) : v = v' := by
  induction h with
  | refl v => rfl
  | tk m E _ ih =>
    have := Ob.tkB_whole hw
    rw [this] at hw ⊢
    exact ih hw

/-- Up to e_j's place. -/
theorem view_before {S : Nat → Bool} {op : Op} {L T : List Nat} {ej : En} {rest : List En} : ∀ {es : List En} {i : Nat} {s s' : St} {z : St}, Chain (es ++ ej :: rest) s z →
    (∀ t ∈ T, Fil (pj op (s.env t)) (pj op (s'.env t))) → (∀ id ∈ L, FilO id (s.hp id) (s'.hp id)) →
    (∀ k e, es[k]? = some e → S (i + k) = false → (∀ t ∈ T, e.o.dst ≠ some t) ∧ ∀ id ∈ L, id ∉ e.ups.map (·.1)) →
    (∀ t ∈ T, Fil (pj op (ej.s.env t)) (pj op ((prodS S es i s').env t))) ∧ ∀ id ∈ L, FilO id (ej.s.hp id) ((prodS S es i s').hp id)
  | [], i, s, s', z, hc, h1, h2, _ => by
    rw [hc.1]; exact ⟨h1, h2⟩
  | e :: es, i, s, s', z, hc, h1, h2, hS => by
    simp only [prodS]
    have hr : ∀ k e', es[k]? = some e' → S (i + 1 + k) = false → _ := fun k e' hk hSk => hS (k + 1) e' (by simpa using hk) (by rw [show i + (k + 1) = i + 1 + k by omega]; exact hSk)
    cases hSi : S i
    · obtain ⟨g1, g2⟩ := hS 0 e rfl (by simpa using hSi)
      refine view_before hc.2 (fun t ht => ?_) (fun id hid => ?_) hr
      · rw [cond_false, e.run_envE, if_neg (g1 t ht), pj_tkB, pj_tkB]
        exact .tk _ _ (.tk _ _ (h1 t ht))
      · rw [cond_false, e.run_hpE, updL_not _ _ (g2 id hid)]
        exact .tk _ _ (.tk _ _ (h2 id hid))
    · refine view_before hc.2 (fun t ht => ?_) (fun id hid => ?_) hr
      · rw [cond_true, e.run_envE, e.run_envE]
        by_cases hd : e.o.dst = some t
        · rw [if_pos hd, if_pos hd]; exact .refl _
        · rw [if_neg hd, if_neg hd, pj_tkB, pj_tkB, pj_tkB, pj_tkB]; exact (h1 t ht).both.both
      · rw [cond_true, e.run_hpE, e.run_hpE]
        by_cases hm : id ∈ e.ups.map (·.1)
        · obtain ⟨q, _, _, q3, q4⟩ := updL_val (f := fun id => ((s.hp id).tkB true e.dr id).tkB false e.nk id) (g := fun id => ((s'.hp id).tkB true e.dr id).tkB false e.nk id) hm
          rw [q3, q4]; exact .refl _
        · rw [updL_not _ _ hm, updL_not _ _ hm]; exact (h2 id hid).both.both

theorem tkB_none_iff {k : Bool} {D : List Nat} {id : Nat} {o : Ob} : o.tkB k D id = .none ↔ o = .none ∨ (k && mem id D) = true := by
  unfold Ob.tkB
  cases h : (k && mem id D) <;> cases o <;> simp [Ob.mapA]

/-- Up to e_j's place: objects that are not there. -/
theorem none_before {S : Nat → Bool} {L : List Nat} {ej : En} {rest : List En} : ∀ {es : List En} {i : Nat} {s s' : St} {z : St}, Chain (es ++ ej :: rest) s z → (∀ id ∈ L, s.hp id = .none → s'.hp id = .none) →
    (∀ k e, es[k]? = some e → S (i + k) = false → ∀ id ∈ L, id ∉ e.ups.map (·.1) ∧ id ∉ e.tk) → ∀ id ∈ L, ej.s.hp id = .none → (prodS S es i s').hp id = .none
  | [], i, s, s', z, hc, h, _ => by
    rw [hc.1]; exact h
  | e :: es, i, s, s', z, hc, h, hS => by
    simp only [prodS]
    have hr : ∀ k e', es[k]? = some e' → S (i + 1 + k) = false → _ := fun k e' hk hSk => hS (k + 1) e' (by simpa using hk) (by rw [show i + (k + 1) = i + 1 + k by omega]; exact hSk)
    refine none_before hc.2 (fun id hid hn => ?_) hr
    rw [e.run_hpE] at hn
    cases hSi : S i
    · obtain ⟨g1, g2⟩ := hS 0 e rfl (by simpa using hSi) id hid
      rw [cond_false]
      rw [updL_not _ _ g1, tkB_none_iff, tkB_none_iff] at hn
      rcases hn with (hn | hn) | hn
      · exact h id hid hn
      · rw [Bool.true_and] at hn
        exact absurd (mem_iff.1 hn) (fun hh => g2 (by unfold En.tk; simp [hh]))
      · cases hn
    · rw [cond_true, e.run_hpE]
      by_cases hm : id ∈ e.ups.map (·.1)
      · obtain ⟨q, _, _, q3, q4⟩ := updL_val (f := fun id => ((s.hp id).tkB true e.dr id).tkB false e.nk id) (g := fun id => ((s'.hp id).tkB true e.dr id).tkB false e.nk id) hm
        rw [q3] at hn; rw [q4]; exact hn
      · rw [updL_not _ _ hm, tkB_none_iff, tkB_none_iff] at hn ⊢
        exact hn.imp (fun hn => hn.imp (h id hid) (fun h => h)) (fun h => h)

/-- Up to e_j's place, where nothing is taken away there. -/
theorem view_before0 {S : Nat → Bool} {op : Op} {L T : List Nat} {ej : En} {rest : List En} : ∀ {es : List En} {i : Nat} {s s' : St} {z : St}, Chain (es ++ ej :: rest) s z → View (pj op) L T s s' →
    (∀ k e, es[k]? = some e → S (i + k) = false → e.tk = [] ∧ (∀ t ∈ T, e.o.dst ≠ some t) ∧ ∀ id ∈ L, id ∉ e.ups.map (·.1)) → View (pj op) L T ej.s (prodS S es i s')
  | [], i, s, s', z, hc, h, _ => by
    rw [hc.1]; exact h
  | e :: es, i, s, s', z, hc, h, hS => by
    simp only [prodS]
    refine view_before0 hc.2 ?_ (fun k e' hk hSk => hS (k + 1) e' (by simpa using hk) (by rw [show i + (k + 1) = i + 1 + k by omega]; exact hSk))
    cases hSi : S i
    · obtain ⟨h0, h1, h2⟩ := hS 0 e rfl (by simpa using hSi)
      have hno : ∀ {id : Nat}, id ∉ e.tk := fun h => by rw [h0] at h; cases h
      exact ⟨fun t ht => by rw [cond_false, e.gen_env (h1 t ht) (fun _ _ => hno)]; exact h.1 t ht, fun id hid => by rw [cond_false, e.gen_hp (h2 id hid) hno (fun _ _ => hno)]; exact h.2 id hid⟩
    · refine ⟨fun t ht => ?_, fun id hid => ?_⟩
      · rw [cond_true, e.run_envE, e.run_envE]
        by_cases hd : e.o.dst = some t
        · rw [if_pos hd, if_pos hd]
        · rw [if_neg hd, if_neg hd, pj_tkB, pj_tkB, pj_tkB, pj_tkB, h.1 t ht]
      · rw [cond_true, e.run_hpE, e.run_hpE]
        exact updL_same (by rw [h.2 id hid])

theorem prodS_append {S : Nat → Bool} : ∀ {es fs : List En} {i : Nat} {s : St}, prodS S (es ++ fs) i s = prodS S fs (i + es.length) (prodS S es i s)
  | [], fs, i, s => rfl
  | e :: es, fs, i, s => by
    simp only [List.cons_append, prodS, List.length_cons]
    rw [prodS_append, show i + 1 + es.length = i + (es.length + 1) by omega]

theorem prodS_congr {S S' : Nat → Bool} : ∀ {es : List En} {i : Nat} {s : St}, (∀ k, i ≤ k → k < i + es.length → S k = S' k) → prodS S es i s = prodS S' es i s
  | [], _, _, _ => rfl
  | e :: es, i, s, h => by
    simp only [prodS]
    rw [h i (Nat.le_refl _) (by simp), prodS_congr (fun k h1 h2 => h k (by omega) (by simp only [List.length_cons]; omega))]

theorem prodS_comm {S : Nat → Bool} {ej : En} : ∀ {es : List En} {i : Nat} {s : St}, (∀ k e, es[k]? = some e → S (i + k) = true → ∀ s, ej.run (e.run s) = e.run (ej.run s)) → ej.run (prodS S es i s) = prodS S es i (ej.run s)
  | [], _, _, _ => rfl
  | e :: es, i, s, h => by
    simp only [prodS]
    rw [prodS_comm (fun k e' hk hSk => h (k + 1) e' (by simpa using hk) (by rw [show i + (k + 1) = i + 1 + k by omega]; exact hSk))]
    cases hSi : S i
    · rfl
    · simp only [cond_true]
      rw [h 0 e rfl (by simpa using hSi)]

end Go.Vm
