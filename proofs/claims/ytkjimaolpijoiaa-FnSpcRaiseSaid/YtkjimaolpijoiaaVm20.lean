/- Regions that draw their order: all orders come to the same. -/
import Derived.Test.YtkjimaolpijoiaaVm19
set_option linter.unusedVariables false
set_option linter.unusedSimpArgs false
namespace Go.Vm

/-! ### What is ahead by edges -/
theorem mem_uniN {i : Nat} : ∀ {a l : List Nat}, i ∈ uniN a l → i ∈ a ∨ i ∈ l
  | [], l, h => .inr h
  | x :: a, l, h => by
    simp only [uniN] at h
    cases hm : mem x l <;> rw [hm] at h
    · rcases mem_uniN h with h | h
      · exact .inl (List.mem_cons_of_mem _ h)
      · rcases List.mem_cons.1 h with rfl | h
        · exact .inl List.mem_cons_self
        · exact .inr h
    · rcases mem_uniN h with h | h
      · exact .inl (List.mem_cons_of_mem _ h)
      · exact .inr h

theorem inner_spec (acc : List (List Nat)) : ∀ (es : List Edge) (l0 : List Nat) (i : Nat), i ∈ es.foldl (init := l0) (fun l e => bif Region.binds .any e then uniN (e.on :: acc.getD e.on []) l else l) →
    i ∈ l0 ∨ ∃ e ∈ es, Region.binds .any e = true ∧ (i = e.on ∨ i ∈ acc.getD e.on [])
  | [], l0, i, h => .inl h
  | e :: es, l0, i, h => by
    rw [List.foldl_cons] at h
    rcases inner_spec acc es _ i h with h | ⟨e', h1, h2, h3⟩
    · cases hb : Region.binds .any e <;> rw [hb] at h
      · exact .inl h
      · simp only [cond_true] at h
        rcases mem_uniN h with h | h
        · rcases List.mem_cons.1 h with h | h
          · exact .inr ⟨e, by simp, hb, .inl h⟩
          · exact .inr ⟨e, by simp, hb, .inr h⟩
        · exact .inl h
    · exact .inr ⟨e', by simp [h1], h2, h3⟩

def ClOk (cl : List (List Nat)) (p : List Oper) : Prop :=
  cl.length = p.length ∧ ∀ j i, i ∈ cl.getD j [] → ∃ o e, p[j]? = some o ∧ e ∈ o.after.toList ∧ Region.binds .any e = true ∧ (i = e.on ∨ (e.on < j ∧ i ∈ cl.getD e.on []))

theorem closure_go : ∀ (l p : List Oper) (acc : List (List Nat)), ClOk acc p → ClOk (l.foldl (init := acc) fun acc o =>
    acc ++ [o.after.toList.foldl (init := []) fun l e => bif Region.binds .any e then uniN (e.on :: acc.getD e.on []) l else l]) (p ++ l)
  | [], p, acc, h => by simpa using h
  | o :: l, p, acc, ⟨h1, h2⟩ => by
    rw [List.foldl_cons]
    have := closure_go l (p ++ [o]) (acc ++ [o.after.toList.foldl (init := []) fun l e => bif Region.binds .any e then uniN (e.on :: acc.getD e.on []) l else l]) ?_
    · rwa [List.append_assoc] at this
    · refine ⟨by simp [h1], fun j i hi => ?_⟩
      have hold : ∀ k x, x ∈ acc.getD k [] → k < acc.length ∧ x ∈ (acc ++ [o.after.toList.foldl (init := []) fun l e => bif Region.binds .any e then uniN (e.on :: acc.getD e.on []) l else l]).getD k [] := fun k x hx => by
        have hk : k < acc.length := by
          rcases Nat.lt_or_ge k acc.length with h | h
          · exact h
          · rw [List.getD_eq_getElem?_getD, List.getElem?_eq_none h] at hx; cases hx
        refine ⟨hk, ?_⟩
        rw [List.getD_eq_getElem?_getD, List.getElem?_append_left hk, ← List.getD_eq_getElem?_getD]; exact hx
      rcases Nat.lt_trichotomy j acc.length with hj | hj | hj
      · rw [List.getD_eq_getElem?_getD, List.getElem?_append_left hj, ← List.getD_eq_getElem?_getD] at hi
        obtain ⟨o', e, g1, g2, g3, g4⟩ := h2 j i hi
        refine ⟨o', e, by rw [List.getElem?_append_left (by omega)]; exact g1, g2, g3, g4.imp (fun h => h) (fun ⟨q1, q2⟩ => ⟨q1, (hold _ _ q2).2⟩)⟩
      · rw [List.getD_eq_getElem?_getD, List.getElem?_append_right (by omega), hj] at hi
        simp only [Nat.sub_self, List.getElem?_cons_zero, Option.getD_some] at hi
        rcases inner_spec acc _ _ _ hi with hi | ⟨e, g1, g2, g3⟩
        · cases hi
        · refine ⟨o, e, ?_, g1, g2, g3.imp (fun h => h) (fun q => ⟨by have := (hold _ _ q).1; omega, (hold _ _ q).2⟩)⟩
          rw [List.getElem?_append_right (by omega), ← h1, hj]; simp
      · rw [List.getD_eq_getElem?_getD, List.getElem?_eq_none (by simp; omega)] at hi; cases hi

theorem closure_ok (l : List Oper) : ClOk (closure l) l := by
  have := closure_go l [] [] ⟨rfl, fun j i hi => by simp at hi⟩
  rw [List.nil_append] at this
  exact this

/-- Sets that hold what is ahead. -/
def Down (ops : Array Oper) (S : Nat → Prop) : Prop := ∀ j o, S j → ops[j]? = some o → ∀ e ∈ o.after, Region.binds .any e = true → S e.on

theorem down_closure {ops : Array Oper} {S : Nat → Prop} (hS : Down ops S) : ∀ (j : Nat), S j → ∀ i ∈ (closure ops.toList).getD j [], S i := by
  intro j
  induction j using Nat.strongRecOn with
  | _ j ih =>
    intro hj i hi
    obtain ⟨o, e, h1, h2, h3, h4⟩ := (closure_ok ops.toList).2 j i hi
    have := hS j o hj (by simpa using h1) e (by simpa using h2) h3
    rcases h4 with rfl | ⟨h4, h5⟩
    · exact this
    · exact ih e.on h4 this i h5

/-! ### The trace -/
section
variable {P : Program} {X : Ctx} {w : World} {a : Act} {s : St} {ops : Array Oper}

def Pair (ops : Array Oper) (cl : List (List Nat)) (a b : Info) : Prop := mem a.i (cl.getD b.i []) = true ∨ apartI ops a b = true

theorem isNil_iff {α : Type} {l : List α} : isNil l = true ↔ l = [] := by cases l <;> simp [isNil]

theorem evDraw_trace {R : Type} {cl : List (List Nat)} {K : St → Option R} {y0 : R} : ∀ {l : List Oper} {i : Nat} {acc : List Info} {s : St}, evDraw X ops cl l i acc s K = some y0 →
    ∃ es sN, es.map (·.o) = l ∧ Chain es s sN ∧ K sN = some y0 ∧ (∀ (k : Nat) (e : En), es[k]? = some e → EnOk X ops (i + k) e ∧ backE e.o (i + k) = true) ∧
      (∀ (k : Nat) (e : En), es[k]? = some e → ∀ f ∈ acc, Pair ops cl f e.f) ∧ (∀ (k k' : Nat) (e e' : En), k < k' → es[k]? = some e → es[k']? = some e' → Pair ops cl e.f e'.f)
  | [], i, acc, s, h => ⟨[], s, rfl, rfl, h, by simp, by simp, by simp⟩
  | o :: l, i, acc, s, h => by
    simp only [evDraw] at h
    have h := split_known h
    cases hf : infoOf X ops o i s with
    | none => rw [hf] at h; simp at h
    | some f =>
      cases hg : gstep X ops o s with
      | none => rw [hf, hg] at h; simp at h
      | some p =>
        obtain ⟨c, s2⟩ := p
        rw [hf, hg] at h; simp only at h
        cases hok : (okWith ops cl acc f && backE o i) <;> rw [hok] at h
        · cases h
        cases c
        · cases h
        simp only [cond_true] at h
        simp only [Bool.and_eq_true] at hok
        obtain ⟨es, sN, g1, g2, g3, g4, g5, g6⟩ := evDraw_trace h
        obtain ⟨e, he1, he2, he3, he4, he5⟩ : ∃ e : En, e.o = o ∧ e.s = s ∧ e.f = f ∧ e.run s = s2 ∧ EnOk X ops i e := by
          unfold gstep at hg
          unfold infoOf at hf
          cases hw : wantedA ops o s with
          | none => rw [hw] at hg; cases hg
          | some x =>
            rw [hw] at hg hf; simp only at hg hf
            cases x
            · simp only [cond_false] at hg hf
              cases hd : dstOk X o.dst <;> rw [hd] at hg
              · cases hg
              simp only [cond_true, Option.some.injEq, Prod.mk.injEq, true_and] at hg hf
              refine ⟨⟨o, false, .pure .unk, s, f⟩, rfl, rfl, rfl, hg, hw, ?_, ?_, hd, fun h => by cases h⟩ <;> rw [← hf]
            · simp only [cond_true] at hg hf
              cases hr : core X o (rho X s.env) (restr s.hp (foot X s o)) with
              | none => rw [hr] at hf; cases hf
              | some r =>
                rw [hr] at hf; simp only [Option.some.injEq] at hf
                have hg' := hg
                unfold step at hg
                simp only [hr] at hg
                cases hcond : (dstOk X o.dst && newOk s (foot X s o) r.up && nodup (r.up.map (·.1)) && disj (r.up.map (·.1)) r.dr && subl r.dr (foot X s o)) <;> rw [hcond] at hg
                · cases hg
                simp only [cond_true, Option.some.injEq, Prod.mk.injEq] at hg
                have hd : dstOk X o.dst = true := by
                  simp only [Bool.and_eq_true] at hcond; exact hcond.1.1.1.1
                refine ⟨⟨o, true, r, s, f⟩, rfl, rfl, rfl, hg.2, hw, by rw [← hf], by rw [← hf], hd, fun _ => ⟨by rw [hg', ← hg.2], hr, by rw [← hf], by rw [← hf], by rw [← hf], by rw [← hf], fun hcl => ?_, by rw [← hf]⟩⟩
                rw [← hf] at hcl
                simp only [Bool.and_eq_true, List.all_eq_true] at hcl
                exact hcl
        refine ⟨e :: es, sN, by rw [List.map_cons, he1, g1], ⟨he2, by rw [he4]; exact g2⟩, g3, fun k e' hk => ?_, fun k e' hk f' hf' => ?_, fun k k' e1 e2 hlt h1 h2 => ?_⟩
        · cases k with
          | zero => simp at hk; subst hk; exact ⟨he5, by rw [he1]; exact hok.2⟩
          | succ k =>
            have := g4 k e' (by simpa using hk)
            rwa [show i + 1 + k = i + (k + 1) by omega] at this
        · cases k with
          | zero =>
            simp at hk; subst hk
            rw [he3]
            have := List.all_eq_true.1 hok.1 f' hf'
            simpa [Pair] using this
          | succ k => exact g5 k e' (by simpa using hk) f' (by simp [hf'])
        · cases k' with
          | zero => omega
          | succ k' =>
            cases k with
            | zero =>
              simp at h1; subst h1
              rw [he3]
              exact g5 k' e2 (by simpa using h2) f (by simp)
            | succ k => exact g6 k k' e1 e2 (by omega) (by simpa using h1) (by simpa using h2)

/-- How many are not done. -/
def unl (listed : Array Bool) : Nat → Nat
  | 0 => 0
  | n + 1 => unl listed n + (bif listed.getD n true then 0 else 1)

theorem unl_set {listed : Array Bool} {i : Nat} (hi : listed.getD i true = false) : ∀ (n : Nat), unl (listed.setIfInBounds i true) n + (if i < n then 1 else 0) = unl listed n
  | 0 => by simp [unl]
  | n + 1 => by
    have ih := unl_set hi n
    simp only [unl]
    by_cases hn : i = n
    · subst hn
      rw [hi]
      have : (listed.setIfInBounds i true).getD i true = true := by simp [Array.getElem?_setIfInBounds]; split <;> simp
      rw [this]
      rw [if_neg (Nat.lt_irrefl _)] at ih
      simp; omega
    · rw [getD_set_ne true hn]
      by_cases hlt : i < n
      · rw [if_pos hlt] at ih; rw [if_pos (by omega)]; omega
      · rw [if_neg hlt] at ih; rw [if_neg (by omega)]; omega

theorem unl_zero {listed : Array Bool} : ∀ {n : Nat}, unl listed n = 0 → ∀ i, i < n → listed.getD i true = true
  | n + 1, h, i, hi => by
    simp only [unl] at h
    by_cases hn : i = n
    · subst hn
      cases hb : listed.getD i true
      · rw [hb] at h; simp at h
      · rfl
    · exact unl_zero (n := n) (by omega) i (by omega)

theorem getD_both {listed : Array Bool} {i : Nat} (hi : i < listed.size) : listed.getD i true = listed.getD i false := by
  simp [Array.getD_eq_getD_getElem?, hi]

variable {w0 : World} {st0 : Blks} {ρ0 : Nat → Value} {φ0 : Nat → Blks} {s0 : St}

theorem EnOk.ups {i : Nat} {e : En} (he : EnOk X ops i e) : (∀ id ∈ e.ups.map (·.1), e.W = true ∧ id ∈ e.f.w) := fun id hid => by
  unfold En.ups at hid
  cases hW : e.W <;> rw [hW] at hid
  · simp at hid
  · exact ⟨rfl, by rw [(he.2.2.2.2 hW).2.2.2.1]; exact hid⟩

theorem EnOk.tk {i : Nat} {e : En} (he : EnOk X ops i e) : (∀ id ∈ e.tk, e.W = true ∧ id ∈ e.f.tk) := fun id hid => by
  unfold En.tk En.dr En.nk at hid
  cases hW : e.W <;> rw [hW] at hid
  · simp at hid
  · exact ⟨rfl, by rw [(he.2.2.2.2 hW).2.2.2.2.1]; exact hid⟩

theorem EnOk.res {i : Nat} {e : En} (he : EnOk X ops i e) : (∀ id ∈ e.res, id ∈ e.f.res) := fun id hid => by
  unfold En.res En.ups En.val at hid
  cases hW : e.W <;> rw [hW] at hid
  · simp [AV.ids] at hid
  · rw [(he.2.2.2.2 hW).2.2.2.2.2.1]; exact hid

theorem EnOk.res_tch {i : Nat} {e : En} (he : EnOk X ops i e) : (∀ id ∈ e.res, id ∈ e.f.tch) := fun id hid => by
  have h1 := he.res id hid
  unfold En.res En.ups En.val at hid
  cases hW : e.W <;> rw [hW] at hid
  · simp [AV.ids] at hid
  · rw [(he.2.2.2.2 hW).2.2.2.2.2.2.2]
    rw [(he.2.2.2.2 hW).2.2.2.2.2.1] at h1
    simp only [List.mem_append]
    exact .inr (.inr (.inr h1))

/-- e is ahead of f in the text, neither waits for the other. -/
structure Ap (ops : Array Oper) (e f : En) : Prop where
  d1 : ∀ t ∈ f.o.looksAt ops, e.o.dst ≠ some t
  d2 : ∀ t ∈ e.o.looksAt ops, f.o.dst ≠ some t
  d3 : ∀ d, e.o.dst = some d → f.o.dst ≠ some d
  u1 : ∀ id ∈ e.ups.map (·.1), id ∉ f.f.foot ++ f.f.w
  u2 : ∀ id ∈ f.ups.map (·.1), id ∉ e.f.foot
  t1 : ∀ id ∈ e.tk, id ∉ f.f.res
  t2 : e.tk = [] ∨ f.f.cl = true
  t3 : ∀ id ∈ f.tk, id ∉ e.f.tch

theorem apart_ap {i j : Nat} {e f : En} (he : EnOk X ops i e) (hf : EnOk X ops j f) (h : apartI ops e.f f.f = true) : Ap ops e f := by
  unfold apartI at h
  simp only [Bool.and_eq_true, Bool.or_eq_true, disj_iff, isNil_iff] at h
  obtain ⟨⟨⟨⟨⟨h1, h2⟩, h3⟩, h4⟩, h5⟩, h6⟩ := h
  rw [he.2.1, hf.2.1] at h1
  obtain ⟨a1, a2, a3⟩ := Oper.apart_spec h1
  refine ⟨fun t ht hd => a1 t hd ht, fun t ht hd => a3 t hd ht, fun d hd => a2 d hd, fun id hid => h2 id (he.ups id hid).2, fun id hid => h3 id (hf.ups id hid).2, fun id hid => h4 id (he.tk id hid).2, ?_, fun id hid => h6 id (hf.tk id hid).2⟩
  rcases h5 with h5 | h5
  · left
    cases hh : e.tk with
    | nil => rfl
    | cons x l =>
      have := (he.tk x (by rw [hh]; simp)).2
      rw [h5] at this; cases this
  · exact .inr h5

theorem wpAny_draw (hA : TyAll P X) (hC : ConOk P X) {Q : Exit → Act → World → Prop} {es : List En} {s sN : St} (hops : es.map (·.o) = ops.toList) (hch : Chain es s sN)
    (hen : ∀ (k : Nat) (e : En), es[k]? = some e → EnOk X ops k e ∧ backE e.o k = true) (hpair : ∀ (k k' : Nat) (e e' : En), k < k' → es[k]? = some e → es[k']? = some e' → Pair ops (closure ops.toList) e.f e'.f)
    (hQ : ∀ a w, Inv X w0 st0 ρ0 φ0 s0 a w sN → Q .normal a w) : ∀ (fuel : Nat) (listed : Array Bool) (a : Act) (w : World), listed.size = ops.size → unl listed ops.size ≤ fuel →
      Down ops (fun i => listed.getD i false = true) → Inv X w0 st0 ρ0 φ0 s0 a w (prodS (fun i => listed.getD i false) es 0 s) → wpAny P .any ops Q fuel listed a w := by
  have hlen : es.length = ops.size := by rw [← Array.length_toList, ← hops, List.length_map]
  have hop : ∀ k, ops[k]? = (es[k]?).map (fun e : En => e.o) := fun k => by rw [← Array.getElem?_toList, ← hops, List.getElem?_map]
  have hdone : ∀ (listed : Array Bool) (a : Act) (w : World), listed.size = ops.size → Down ops (fun i => listed.getD i false = true) → Region.ready .any ops listed = [] →
      Inv X w0 st0 ρ0 φ0 s0 a w (prodS (fun i => listed.getD i false) es 0 s) → Q .normal a w := by
    intro listed a w hsz hdn hr hi
    have hall : ∀ i, i < ops.size → listed.getD i false = true := by
      intro i
      induction i using Nat.strongRecOn with
      | _ i ih =>
        intro hlt
        cases hb : listed.getD i false
        · exfalso
          have hm : i ∈ Region.ready .any ops listed := by
            obtain ⟨e, he⟩ : ∃ e, es[i]? = some e := ⟨es[i]'(by omega), List.getElem?_eq_getElem _⟩
            refine mem_ready.2 ⟨by rw [getD_both (by omega)]; exact hb, e.o, by rw [hop, he]; rfl, fun ed hed hbd => ?_⟩
            have := (hen i e he).2
            unfold backE at this
            have := List.all_eq_true.1 this ed (by simpa using hed)
            rw [hbd] at this
            have : ed.on < i := by simpa [Nat.blt_eq] using this
            exact ih ed.on this (by omega)
          rw [hr] at hm; cases hm
        · rfl
    rw [prodS_all hch (fun k _ hk => hall k (by omega))] at hi
    exact hQ a w hi
  intro fuel
  induction fuel with
  | zero =>
    intro listed a w hsz hf hdn hi
    have hr : Region.ready .any ops listed = [] := by
      cases hrr : Region.ready .any ops listed with
      | nil => rfl
      | cons j l =>
        have hm : j ∈ Region.ready .any ops listed := by rw [hrr]; simp
        obtain ⟨h1, o, h2, _⟩ := mem_ready.1 hm
        have hlt : j < ops.size := (Array.getElem?_eq_some_iff.1 h2).1
        rw [unl_zero (by omega) j hlt] at h1; cases h1
    exact ⟨hr, hdone listed a w hsz hdn hr hi⟩
  | succ fuel ih =>
    intro listed a w hsz hf hdn hi
    refine ⟨fun hr => hdone listed a w hsz hdn hr hi, fun j hj => ?_⟩
    obtain ⟨h1, o, h2, h3⟩ := mem_ready.1 hj
    have hlt : j < ops.size := (Array.getElem?_eq_some_iff.1 h2).1
    have h1' : listed.getD j false = false := by rw [← getD_both (by omega)]; exact h1
    obtain ⟨ej, hej⟩ : ∃ e, es[j]? = some e := ⟨es[j]'(by omega), List.getElem?_eq_getElem _⟩
    have ho : o = ej.o := by
      have := hop j; rw [h2, hej] at this; simpa using this
    obtain ⟨hok, hback⟩ := hen j ej hej
    -- around its place
    obtain ⟨pre, post, hsplit, hpre⟩ : ∃ pre post, es = pre ++ ej :: post ∧ pre.length = j := by
      refine ⟨es.take j, es.drop (j + 1), ?_, by rw [List.length_take]; omega⟩
      have hlt' : j < es.length := by omega
      have e1 : es[j] = ej := by rw [List.getElem?_eq_getElem hlt'] at hej; simpa using hej
      rw [← e1, List.getElem_cons_drop, List.take_append_drop]
    have hdn' : Down ops (fun i => (listed.setIfInBounds j true).getD i false = true) := by
      intro i oi hS hoi ed hed hb
      by_cases hij : j = i
      · subst hij
        rw [h2] at hoi; cases hoi
        exact getD_set_true (h3 ed hed hb)
      · simp only [getD_set_ne false hij] at hS
        exact getD_set_true (hdn i oi hS hoi ed hed hb)
    have hfi : ∀ (k : Nat) (e : En), es[k]? = some e → e.f.i = k := fun k e hk => (hen k e hk).1.2.2.1
    have hbef : ∀ (k : Nat) (e : En), k < j → es[k]? = some e → listed.getD k false = false → apartI ops e.f ej.f = true := by
      intro k e hk he hS
      rcases hpair k j e ej hk he hej with hm | hap
      · exfalso
        rw [hfi k e he, hfi j ej hej] at hm
        have := down_closure hdn' j (by simp [Array.getElem?_setIfInBounds, hsz, hlt]) k (mem_iff.1 hm)
        simp only [getD_set_ne false (show j ≠ k by omega)] at this
        rw [hS] at this; cases this
      · exact hap
    have haft : ∀ (k : Nat) (e : En), j < k → es[k]? = some e → listed.getD k false = true → apartI ops ej.f e.f = true := by
      intro k e hk he hS
      rcases hpair j k ej e hk hej he with hm | hap
      · exfalso
        rw [hfi k e he, hfi j ej hej] at hm
        have := down_closure hdn k hS j (mem_iff.1 hm)
        rw [h1'] at this; cases this
      · exact hap
    have hpreget : ∀ (k : Nat) (e : En), pre[k]? = some e → k < j ∧ es[k]? = some e := fun k e hk => by
      have hlt := (List.getElem?_eq_some_iff.1 hk).1
      exact ⟨by omega, by rw [hsplit, List.getElem?_append_left hlt]; exact hk⟩
    have hpostget : ∀ (k : Nat) (e : En), post[k]? = some e → es[j + 1 + k]? = some e := fun k e hk => by
      rw [hsplit, List.getElem?_append_right (by omega), show j + 1 + k - pre.length = k + 1 by omega, List.getElem?_cons_succ]; exact hk
    have hshape : ∀ S : Nat → Bool, prodS S es 0 s = prodS S post (j + 1) (bif S j then ej.run (prodS S pre 0 s) else prodS S pre 0 s) := fun S => by
      rw [hsplit, prodS_append]
      simp only [prodS, Nat.zero_add, hpre]
    have hsh : prodS (fun i => listed.getD i false) es 0 s = prodS (fun i => listed.getD i false) post (j + 1) (prodS (fun i => listed.getD i false) pre 0 s) := by
      rw [hshape]; simp only [h1', cond_false]
    have hbefA : ∀ (k : Nat) (e : En), pre[k]? = some e → listed.getD (0 + k) false = false → Ap ops e ej := fun k e hk hS => by
      obtain ⟨q1, q2⟩ := hpreget k e hk
      simp only [Nat.zero_add] at hS
      exact apart_ap (hen k e q2).1 hok (hbef k e q1 q2 hS)
    have haftA : ∀ (k : Nat) (e : En), post[k]? = some e → listed.getD (j + 1 + k) false = true → Ap ops ej e := fun k e hk hS => by
      have q2 := hpostget k e hk
      exact apart_ap hok (hen _ e q2).1 (haft _ e (by omega) q2 hS)
    have hchain := hsplit ▸ hch
    have hgd := wanted_bool hok.1
    have hgdv : ∀ t ∈ gdOf ops ej.o, (prodS (fun i => listed.getD i false) es 0 s).env t = ej.s.env t := by
      obtain ⟨v1, _⟩ := view_before (S := fun i => listed.getD i false) (op := .move (.tmp 0)) (L := []) (T := gdOf ops ej.o) (rest := post) (z := sN) (s' := s) (i := 0) hchain (fun _ _ => .refl _) (fun _ _ => .refl _) (fun k e hk hS =>
        ⟨fun t ht => (hbefA k e hk hS).d1 t (gd_looks ht), by simp⟩)
      have hv0 : View (pj (.move (.tmp 0))) [] (gdOf ops ej.o) ej.s (prodS (fun i => listed.getD i false) pre 0 s) := ⟨fun t ht => by
        exact ((v1 t ht).whole (hgd t ht).1).symm, by simp⟩
      have := view_after (S := fun i => listed.getD i false) (es := post) (i := j + 1) hv0 (fun k e hk hS => ⟨fun t ht => (haftA k e hk hS).d2 t (gd_looks ht), by simp, fun t ht id hid => (by
        have hid : id ∈ (ej.s.env t).ids := hid
        rw [(hgd t ht).2] at hid; cases hid), by simp⟩)
      intro t ht
      rw [hsh]; exact this.1 t ht
    have hrunv : ej.W = true → View (pj ej.o.op) (foot X ej.s ej.o ++ ej.r.up.map (·.1)) (ej.o.looksAt ops) ej.s (prodS (fun i => listed.getD i false) es 0 s) := fun hW => by
      obtain ⟨g1, g2, g3, g4, g5, g6, g7, g8⟩ := hok.2.2.2.2 hW
      have hfw : ej.f.foot ++ ej.f.w = foot X ej.s ej.o ++ ej.r.up.map (·.1) := by rw [g3, g4]
      have hv : View (pj ej.o.op) (foot X ej.s ej.o ++ ej.r.up.map (·.1)) (ej.o.looksAt ops) ej.s (prodS (fun i => listed.getD i false) pre 0 s) := by
        cases hcl : ej.f.cl
        · exact view_before0 (rest := post) (z := sN) hchain ⟨fun _ _ => rfl, fun _ _ => rfl⟩ (fun k e hk hS => by
            have hap := hbefA k e hk hS
            refine ⟨hap.t2.resolve_right (by rw [hcl]; simp), hap.d1, fun id hid h => hap.u1 id h (by rw [hfw]; exact hid)⟩)
        · obtain ⟨v1, v2⟩ := view_before (S := fun i => listed.getD i false) (op := ej.o.op) (L := foot X ej.s ej.o ++ ej.r.up.map (·.1)) (T := ej.o.looksAt ops) (rest := post) (z := sN) (s' := s) (i := 0) hchain (fun _ _ => .refl _) (fun _ _ => .refl _) (fun k e hk hS => by
            have hap := hbefA k e hk hS
            exact ⟨hap.d1, fun id hid h => hap.u1 id h (by rw [hfw]; exact hid)⟩)
          have v3 := none_before (S := fun i => listed.getD i false) (L := ej.r.up.map (·.1)) (rest := post) (z := sN) (s' := s) (i := 0) hchain (fun _ _ h => h) (fun k e hk hS id hid => by
            have hap := hbefA k e hk hS
            refine ⟨fun h => hap.u1 id h (by rw [hfw]; simp only [List.mem_append]; exact .inr hid), fun h => hap.t1 id h ?_⟩
            rw [g6]; unfold resOf; simp only [List.mem_append]; exact .inl hid)
          obtain ⟨w1, w2⟩ := g7 hcl
          refine ⟨fun t ht => ((v1 t ht).whole (w1 t ht)).symm, fun id hid => ?_⟩
          by_cases hwh : (ej.s.hp id).whole = true
          · exact ((v2 id hid).whole hwh).symm
          · have hup : id ∈ ej.r.up.map (·.1) := (List.mem_append.1 hid).resolve_left (fun h => hwh (w2 id h))
            have hnone : ej.s.hp id = .none ∨ ∃ S v, ej.s.hp id = .box S v := by
              cases ho : ej.s.hp id with
              | none => exact .inl rfl
              | box S v => exact .inr ⟨S, v, rfl⟩
              | _ => rw [ho] at hwh; exact absurd rfl hwh
            rcases hnone with hn | ⟨S, v, hb⟩
            · rw [hn]; exact v3 id hup hn
            · exfalso
              -- what is turned lies in the foot
              have hnew : newOk ej.s (foot X ej.s ej.o) ej.r.up = true := by
                have hst := g1
                unfold step at hst
                simp only [g2] at hst
                cases hcond : (dstOk X ej.o.dst && newOk ej.s (foot X ej.s ej.o) ej.r.up && nodup (ej.r.up.map (·.1)) && disj (ej.r.up.map (·.1)) ej.r.dr && subl ej.r.dr (foot X ej.s ej.o)) <;> rw [hcond] at hst
                · cases hst
                · simp only [Bool.and_eq_true] at hcond; exact hcond.1.1.1.2
              obtain ⟨q, hq, rfl⟩ := List.mem_map.1 hup
              exact hwh (w2 _ ((newOk_mem hnew hq).2 (by rw [hb]; simp)))
      rw [hsh]
      refine view_after hv (fun k e hk hS => ?_)
      have hap := haftA k e hk hS
      have htch : ∀ id ∈ e.tk, id ∉ lkOf ops ej.o ej.s ++ (foot X ej.s ej.o ++ (((foot X ej.s ej.o).flatMap fun id => (ej.s.hp id).ids) ++ resOf ej.r)) := fun id hid h => hap.t3 id hid (by rw [g8]; exact h)
      refine ⟨hap.d2, fun id hid h => ?_, fun t ht id hid h => htch id h ?_, fun id hid => ⟨fun h => htch id h ?_, fun q hq h => ?_⟩⟩
      · rcases List.mem_append.1 hid with hid | hid
        · exact hap.u2 id h (by rw [g3]; exact hid)
        · exact hap.u1 id (by unfold En.ups; rw [hW]; exact hid) (by
            obtain ⟨hWe, hw⟩ := (hen _ e (hpostget k e hk)).1.ups id h
            simp only [List.mem_append]; exact .inr hw)
      · simp only [List.mem_append]; left; unfold lkOf; exact List.mem_flatMap.2 ⟨t, ht, hid⟩
      · simp only [List.mem_append]
        rcases List.mem_append.1 hid with hid | hid
        · exact .inr (.inl hid)
        · right; right; right; unfold resOf; simp only [List.mem_append]; exact .inl hid
      · rcases List.mem_append.1 hid with hid | hid
        · refine htch q h ?_
          simp only [List.mem_append, List.mem_flatMap]
          exact .inr (.inr (.inl ⟨id, hid, hq⟩))
        · by_cases hf : id ∈ foot X ej.s ej.o
          · refine htch q h ?_
            simp only [List.mem_append, List.mem_flatMap]
            exact .inr (.inr (.inl ⟨id, hf, hq⟩))
          · have hnew : newOk ej.s (foot X ej.s ej.o) ej.r.up = true := by
              have hst := g1
              unfold step at hst
              simp only [g2] at hst
              cases hcond : (dstOk X ej.o.dst && newOk ej.s (foot X ej.s ej.o) ej.r.up && nodup (ej.r.up.map (·.1)) && disj (ej.r.up.map (·.1)) ej.r.dr && subl ej.r.dr (foot X ej.s ej.o)) <;> rw [hcond] at hst
              · cases hst
              · simp only [Bool.and_eq_true] at hcond; exact hcond.1.1.1.2
            obtain ⟨q', hq', rfl⟩ := List.mem_map.1 hid
            have := (newOk_mem hnew hq').2
            by_cases hn : ej.s.hp q'.1 = .none
            · rw [hn] at hq; cases hq
            · exact hf (this hn)
    have hrun : ej.run (prodS (fun i => listed.getD i false) es 0 s) = prodS (fun i => (listed.setIfInBounds j true).getD i false) es 0 s := by
      rw [hshape, hshape]
      have e1 : prodS (fun i => (listed.setIfInBounds j true).getD i false) pre 0 s = prodS (fun i => listed.getD i false) pre 0 s :=
        prodS_congr fun k _ hk => getD_set_ne false (by omega)
      have e2 : ∀ s', prodS (fun i => (listed.setIfInBounds j true).getD i false) post (j + 1) s' = prodS (fun i => listed.getD i false) post (j + 1) s' := fun s' =>
        prodS_congr fun k hk _ => getD_set_ne false (by omega)
      have e3 : (listed.setIfInBounds j true).getD j false = true := by simp [Array.getElem?_setIfInBounds, hsz, hlt]
      rw [e1, e2]
      simp only [h1', e3, cond_false, cond_true]
      refine prodS_comm fun k e hk hS s' => ?_
      have q2 := hpostget k e hk
      have hap := haftA k e hk hS
      exact En.comm ej e (fun id hid h => hap.t1 id hid ((hen _ e q2).1.res id h)) (fun id hid h => hap.t3 id hid (hok.res_tch id h)) hap.d3 (fun id hid hid' => hap.u1 id hid (by
        simp only [List.mem_append]; exact .inr ((hen _ e q2).1.ups id hid').2)) s'
    have hnext : ∀ a' w', Inv X w0 st0 ρ0 φ0 s0 a' w' (ej.run (prodS (fun i => listed.getD i false) es 0 s)) → wpAny P .any ops Q fuel (listed.setIfInBounds j true) a' w' := fun a' w' hi' => by
      refine ih _ a' w' (by simpa using hsz) ?_ hdn' (hrun ▸ hi')
      have := unl_set h1 ops.size
      rw [if_pos hlt] at this; omega
    unfold wpOp
    rw [h2]
    simp only
    subst ho
    cases hW : ej.W
    · have hv := hgdv
      have hw : wantedA ops ej.o (prodS (fun i => listed.getD i false) es 0 s) = some false := by rw [wanted_view hv, hok.1, hW]
      rw [wanted_known hi hw]
      simp only [Bool.false_eq_true, if_false]
      refine hnext _ _ ?_
      have : ej.run (prodS (fun i => listed.getD i false) es 0 s) = (prodS (fun i => listed.getD i false) es 0 s).put ej.o.dst .tnil := by unfold En.run; rw [hW]; rfl
      rw [this]
      exact hi.skip hok.2.2.2.1
    · obtain ⟨g1, g2, g3, g4, g5⟩ := hok.2.2.2.2 hW
      have hv := hrunv hW
      have hw : wantedA ops ej.o (prodS (fun i => listed.getD i false) es 0 s) = some true := by rw [wanted_view hgdv, hok.1, hW]
      rw [wanted_known hi hw]
      simp only [if_true]
      have hst := step_view hv g2 g1
      refine .inl (hi.step hA hC hst fun v w' hi' => hnext _ _ ?_)
      have : ej.run (prodS (fun i => listed.getD i false) es 0 s) = (prodS (fun i => listed.getD i false) es 0 s).app ej.o.dst ej.r := by unfold En.run; rw [hW]; rfl
      rw [this]
      exact hi'

/-- A region that draws its order. -/
theorem evDraw_ok {R : Type} (hA : TyAll P X) (hC : ConOk P X) (hm : P.follows .mixedOrders = true) {K : St → Option R} {y0 : R} {Q : Exit → Act → World → Prop}
    (hK : ∀ a w s, Inv X w0 st0 ρ0 φ0 s0 a w s → K s = some y0 → Q .normal a w) {id : Nat} (hi : Inv X w0 st0 ρ0 φ0 s0 a w s) (h : evDraw X ops (closure ops.toList) ops.toList 0 [] s K = some y0) : (Code.region id ops true).wp P Q a w := by
  obtain ⟨es, sN, g1, g2, g3, g4, g5, g6⟩ := evDraw_trace h
  refine wp_region_any hm (wpAny_draw hA hC g1 g2 (fun k e hk => by have := g4 k e hk; rwa [Nat.zero_add] at this) g6 (fun a w hi => hK a w sN hi g3) _ _ _ _ (by simp) ?_ ?_ ?_)
  · have : ∀ n, unl (Array.replicate ops.size false) n ≤ n := by
      intro n
      induction n with
      | zero => exact Nat.le_refl _
      | succ n ih =>
        simp only [unl]
        cases (Array.replicate ops.size false).getD n true <;> simp <;> omega
    exact this _
  · intro j o hj
    exfalso
    have hj : (Array.replicate ops.size false).getD j false = true := hj
    simp [Array.getD_eq_getD_getElem?, Array.getElem?_replicate] at hj
    split at hj <;> simp at hj
  · have e1 : prodS (fun i => (Array.replicate ops.size false).getD i false) es 0 s = s := by
      have key : ∀ (l : List En) (i : Nat) (s : St), prodS (fun i => (Array.replicate ops.size false).getD i false) l i s = s := by
        intro l
        induction l with
        | nil => intro i s; rfl
        | cons e l ih =>
          intro i s
          simp only [prodS]
          have : (Array.replicate ops.size false).getD i false = false := by
            simp [Array.getD_eq_getD_getElem?, Array.getElem?_replicate]
            split <;> rfl
          rw [this]; exact ih _ _
      exact key es 0 s
    rw [e1]
    obtain ⟨st, ρ, φ, h1, h2⟩ := hi
    refine ⟨st, ρ, φ, h1.world (fun _ _ => rfl) (fun _ _ _ => rfl) (Nat.le_refl _), ?_⟩
    exact ⟨h2.os, h2.tape, h2.output, h2.size, h2.keep, h2.st1, h2.st2, h2.ow, h2.pid⟩

end
end Go.Vm
