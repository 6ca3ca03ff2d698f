/- A small machine that evaluates the model's code, and that it is right, part 3. No condition. -/
import Derived.Test.YtddpemilmeijfaaGreatFnBatShutVmB
import Derived.KernelRfl
import Derived.WalkKit
import Derived.ProofKit
import Derived.OpenShut
import Derived.ShutString
import Derived.ChangeOld
import Derived.Below
import Derived.SizedLaws
import Derived.Lib.Bytealg
set_option linter.unusedVariables false
set_option linter.unusedSimpArgs false
namespace Go.Vm
theorem Qjr {i : Nat} : ∀ {a l : List Nat}, i ∈ uniN a l -> i ∈ a ∨ i ∈ l
 | [], l, h => .inr h
 | x :: a, l, h => by
  simp only [uniN] at h
  cases hm : mem x l <;> rw [hm] at h
  ·rcases Qjr h with h | h
   ·exact .inl (List.mem_cons_of_mem _ h)
   ·rcases List.mem_cons.1 h with rfl | h
    ·exact .inl List.mem_cons_self
    ·exact .inr h
  ·rcases Qjr h with h | h
   ·exact .inl (List.mem_cons_of_mem _ h)
   ·exact .inr h
theorem Qki (acc : List (List Nat)) : ∀ (es : List Edge) (l0 : List Nat) (i : Nat), i ∈ es.foldl (init := l0) (fun l e => bif Region.binds .any e then uniN (e.on :: acc.getD e.on []) l else l) ->
  i ∈ l0 ∨ ∃ e ∈ es, Region.binds .any e = true /\ (i = e.on ∨ i ∈ acc.getD e.on [])
 | [], l0, i, h => .inl h
 | e :: es, l0, i, h => by
  rw [List.foldl_cons] at h
  rcases Qki acc es _ i h with h | ⟨e', h1, h2, h3⟩
  ·cases hb : Region.binds .any e <;> rw [hb] at h
   ·exact .inl h
   ·simp only [cond_true] at h
    rcases Qjr h with h | h
    ·rcases List.mem_cons.1 h with h | h
     ·exact .inr ⟨e, by simp, hb, .inl h⟩
     ·exact .inr ⟨e, by simp, hb, .inr h⟩
    ·exact .inl h
  ·exact .inr ⟨e', by simp [h1], h2, h3⟩
def ClOk (cl : List (List Nat)) (p : List Oper) : Prop :=
 cl.length = p.length /\ ∀ j i, i ∈ cl.getD j [] -> ∃ o e, p[j]? = some o /\ e ∈ o.after.toList /\ Region.binds .any e = true /\ (i = e.on ∨ (e.on < j /\ i ∈ cl.getD e.on []))
theorem Qkj : ∀ (l p : List Oper) (acc : List (List Nat)), ClOk acc p -> ClOk (l.foldl (init := acc) fun acc o =>
  acc ++ [o.after.toList.foldl (init := []) fun l e => bif Region.binds .any e then uniN (e.on :: acc.getD e.on []) l else l]) (p ++ l)
 | [], p, acc, h => by simpa using h
 | o :: l, p, acc, ⟨h1, h2⟩ => by
  rw [List.foldl_cons]
  have := Qkj l (p ++ [o]) (acc ++ [o.after.toList.foldl (init := []) fun l e => bif Region.binds .any e then uniN (e.on :: acc.getD e.on []) l else l]) ?_
  ·rwa [List.append_assoc] at this
  ·refine ⟨by simp [h1], fun j i hi => ?_⟩
   have hold : ∀ k x, x ∈ acc.getD k [] -> k < acc.length /\ x ∈ (acc ++ [o.after.toList.foldl (init := []) fun l e => bif Region.binds .any e then uniN (e.on :: acc.getD e.on []) l else l]).getD k [] := fun k x hx => by
    have hk : k < acc.length := by
     rcases Nat.lt_or_ge k acc.length with h | h
     ·exact h
     ·rw [List.getD_eq_getElem?_getD, List.getElem?_eq_none h] at hx; cases hx
    refine ⟨hk, ?_⟩
    rw [List.getD_eq_getElem?_getD, List.getElem?_append_left hk, <- List.getD_eq_getElem?_getD]; exact hx
   rcases Nat.lt_trichotomy j acc.length with hj | hj | hj
   ·rw [List.getD_eq_getElem?_getD, List.getElem?_append_left hj, <- List.getD_eq_getElem?_getD] at hi
    obtain ⟨o', e, g1, g2, g3, g4⟩ := h2 j i hi
    refine ⟨o', e, by rw [List.getElem?_append_left (by omega)]; exact g1, g2, g3, g4.imp (fun h => h) (fun ⟨q1, q2⟩ => ⟨q1, (hold _ _ q2).2⟩)⟩
   ·rw [List.getD_eq_getElem?_getD, List.getElem?_append_right (by omega), hj] at hi
    simp only [Nat.sub_self, List.getElem?_cons_zero, Option.getD_some] at hi
    rcases Qki acc _ _ _ hi with hi | ⟨e, g1, g2, g3⟩
    ·cases hi
    ·refine ⟨o, e, ?_, g1, g2, g3.imp (fun h => h) (fun q => ⟨by have := (hold _ _ q).1; omega, (hold _ _ q).2⟩)⟩
     rw [List.getElem?_append_right (by omega), <- h1, hj]; simp
   ·rw [List.getD_eq_getElem?_getD, List.getElem?_eq_none (by simp; omega)] at hi; cases hi
theorem Qpp (l : List Oper) : ClOk (closure l) l := by
 have := Qkj l [] [] ⟨rfl, fun j i hi => by simp at hi⟩
 rw [List.nil_append] at this
 exact this
def Down (ops : Array Oper) (S : Nat -> Prop) : Prop := ∀ j o, S j -> ops[j]? = some o -> ∀ e ∈ o.after, Region.binds .any e = true -> S e.on
theorem Qh5 {ops : Array Oper} {S : Nat -> Prop} (hS : Down ops S) : ∀ (j : Nat), S j -> ∀ i ∈ (closure ops.toList).getD j [], S i := by
 intro j
 induction j using Nat.strongRecOn with
 | _ j ih =>
  intro hj i hi
  obtain ⟨o, e, h1, h2, h3, h4⟩ := (Qpp ops.toList).2 j i hi
  have := hS j o hj (by simpa using h1) e (by simpa using h2) h3
  rcases h4 with rfl | ⟨h4, h5⟩
  ·exact this
  ·exact ih e.on h4 this i h5
section
variable {P : Program} {X : Ctx} {w : World} {a : Act} {s : St} {ops : Array Oper}
def Pair (ops : Array Oper) (cl : List (List Nat)) (a b : Info) : Prop := mem a.i (cl.getD b.i []) = true ∨ apartI ops a b = true
theorem Qq7 {α : Type} {l : List α} : isNil l = true ↔ l = [] := by cases l <;> simp [isNil]
theorem Qh6 {R : Type} {cl : List (List Nat)} {K : St -> Option R} {y0 : R} : ∀ {l : List Oper} {i : Nat} {acc : List Info} {s : St}, evDraw X ops cl l i acc s K = some y0 ->
  ∃ es sN, es.map (·.o) = l /\ Chain es s sN /\ K sN = some y0 /\ (∀ (k : Nat) (e : En), es[k]? = some e -> EnOk X ops (i + k) e /\ backE e.o (i + k) = true) /\
   (∀ (k : Nat) (e : En), es[k]? = some e -> ∀ f ∈ acc, Pair ops cl f e.f) /\ (∀ (k k' : Nat) (e e' : En), k < k' -> es[k]? = some e -> es[k']? = some e' -> Pair ops cl e.f e'.f)
 | [], i, acc, s, h => ⟨[], s, rfl, rfl, h, by simp, by simp, by simp⟩
 | o :: l, i, acc, s, h => by
  simp only [evDraw] at h
  have h := Qi0 h
  cases hf : infoOf X ops o i s with
  | none => rw [hf] at h; simp at h
  | some f =>
   cases hg : gstep X ops o s with
   | none => rw [hf, hg] at h; simp at h
   | some p =>
    obtain ⟨c, s2⟩ := p
    rw [hf, hg] at h; simp only at h
    cases hok : (okWith ops cl acc f && backE o i) <;> rw [hok] at h
    ·cases h
    cases c
    ·cases h
    simp only [cond_true] at h
    simp only [Bool.and_eq_true] at hok
    obtain ⟨es, sN, g1, g2, g3, g4, g5, g6⟩ := Qh6 h
    obtain ⟨e, he1, he2, he3, he4, he5⟩ : ∃ e : En, e.o = o /\ e.s = s /\ e.f = f /\ e.run s = s2 /\ EnOk X ops i e := by
     unfold gstep at hg
     unfold infoOf at hf
     cases hw : wantedA ops o s with
     | none => rw [hw] at hg; cases hg
     | some x =>
      rw [hw] at hg hf; simp only at hg hf
      cases x
      ·simp only [cond_false] at hg hf
       cases hd : dstOk X o.dst <;> rw [hd] at hg
       ·cases hg
       simp only [cond_true, Option.some.injEq, Prod.mk.injEq, true_and] at hg hf
       refine ⟨⟨o, false, .pure .unk, s, f⟩, rfl, rfl, rfl, hg, hw, ?_, ?_, hd, fun h => by cases h⟩ <;> rw [<- hf]
      ·simp only [cond_true] at hg hf
       cases hr : core X o (rho X s.env) (restr s.hp (foot X s o)) with
       | none => rw [hr] at hf; cases hf
       | some r =>
        rw [hr] at hf; simp only [Option.some.injEq] at hf
        have hg' := hg
        unfold step at hg
        simp only [hr] at hg
        cases hcond : (dstOk X o.dst && newOk s (foot X s o) r.up && nodup (r.up.map (·.1)) && disj (r.up.map (·.1)) r.dr && subl r.dr (foot X s o)) <;> rw [hcond] at hg
        ·cases hg
        simp only [cond_true, Option.some.injEq, Prod.mk.injEq] at hg
        have hd : dstOk X o.dst = true := by
         simp only [Bool.and_eq_true] at hcond; exact hcond.1.1.1.1
        refine ⟨⟨o, true, r, s, f⟩, rfl, rfl, rfl, hg.2, hw, by rw [<- hf], by rw [<- hf], hd, fun _ => ⟨by rw [hg', <- hg.2], hr, by rw [<- hf], by rw [<- hf], by rw [<- hf], by rw [<- hf], fun hcl => ?_, by rw [<- hf]⟩⟩
        rw [<- hf] at hcl
        simp only [Bool.and_eq_true, List.all_eq_true] at hcl
        exact hcl
    refine ⟨e :: es, sN, by rw [List.map_cons, he1, g1], ⟨he2, by rw [he4]; exact g2⟩, g3, fun k e' hk => ?_, fun k e' hk f' hf' => ?_, fun k k' e1 e2 hlt h1 h2 => ?_⟩
    ·cases k with
     | zero => simp at hk; subst hk; exact ⟨he5, by rw [he1]; exact hok.2⟩
     | succ k =>
      have := g4 k e' (by simpa using hk)
      rwa [show i + 1 + k = i + (k + 1) by omega] at this
    ·cases k with
     | zero =>
      simp at hk; subst hk
      rw [he3]
      have := List.all_eq_true.1 hok.1 f' hf'
      simpa [Pair] using this
     | succ k => exact g5 k e' (by simpa using hk) f' (by simp [hf'])
    ·cases k' with
     | zero => omega
     | succ k' =>
      cases k with
      | zero =>
       simp at h1; subst h1
       rw [he3]
       exact g5 k' e2 (by simpa using h2) f (by simp)
      | succ k => exact g6 k k' e1 e2 (by omega) (by simpa using h1) (by simpa using h2)
def unl (listed : Array Bool) : Nat -> Nat
 | 0 => 0
 | n + 1 => unl listed n + (bif listed.getD n true then 0 else 1)
theorem Qox {listed : Array Bool} {i : Nat} (hi : listed.getD i true = false) : ∀ (n : Nat), unl (listed.setIfInBounds i true) n + (if i < n then 1 else 0) = unl listed n
 | 0 => by simp [unl]
 | n + 1 => by
  have ih := Qox hi n
  simp only [unl]
  by_cases hn : i = n
  ·subst hn
   rw [hi]
   have : (listed.setIfInBounds i true).getD i true = true := by simp [Array.getElem?_setIfInBounds]; split <;> simp
   rw [this]
   rw [if_neg (Nat.lt_irrefl _)] at ih
   simp; omega
  ·rw [getD_set_ne true hn]
   by_cases hlt : i < n
   ·rw [if_pos hlt] at ih; rw [if_pos (by omega)]; omega
   ·rw [if_neg hlt] at ih; rw [if_neg (by omega)]; omega
theorem Qm6 {listed : Array Bool} : ∀ {n : Nat}, unl listed n = 0 -> ∀ i, i < n -> listed.getD i true = true
 | n + 1, h, i, hi => by
  simp only [unl] at h
  by_cases hn : i = n
  ·subst hn
   cases hb : listed.getD i true
   ·rw [hb] at h; simp at h
   ·rfl
  ·exact Qm6 (n := n) (by omega) i (by omega)
theorem Qlv {listed : Array Bool} {i : Nat} (hi : i < listed.size) : listed.getD i true = listed.getD i false := by
 simp [Array.getD_eq_getD_getElem?, hi]
variable {w0 : World} {st0 : Blks} {ρ0 : Nat -> Value} {φ0 : Nat -> Blks} {s0 : St}
theorem EnOk.ups {i : Nat} {e : En} (he : EnOk X ops i e) : (∀ id ∈ e.ups.map (·.1), e.W = true /\ id ∈ e.f.w) := fun id hid => by
 unfold En.ups at hid
 cases hW : e.W <;> rw [hW] at hid
 ·simp at hid
 ·exact ⟨rfl, by rw [(he.2.2.2.2 hW).2.2.2.1]; exact hid⟩
theorem EnOk.tk {i : Nat} {e : En} (he : EnOk X ops i e) : (∀ id ∈ e.tk, e.W = true /\ id ∈ e.f.tk) := fun id hid => by
 unfold En.tk En.dr En.nk at hid
 cases hW : e.W <;> rw [hW] at hid
 ·simp at hid
 ·exact ⟨rfl, by rw [(he.2.2.2.2 hW).2.2.2.2.1]; exact hid⟩
theorem EnOk.res {i : Nat} {e : En} (he : EnOk X ops i e) : (∀ id ∈ e.res, id ∈ e.f.res) := fun id hid => by
 unfold En.res En.ups En.val at hid
 cases hW : e.W <;> rw [hW] at hid
 ·simp [AV.ids] at hid
 ·rw [(he.2.2.2.2 hW).2.2.2.2.2.1]; exact hid
theorem EnOk.res_tch {i : Nat} {e : En} (he : EnOk X ops i e) : (∀ id ∈ e.res, id ∈ e.f.tch) := fun id hid => by
 have h1 := he.res id hid
 unfold En.res En.ups En.val at hid
 cases hW : e.W <;> rw [hW] at hid
 ·simp [AV.ids] at hid
 ·rw [(he.2.2.2.2 hW).2.2.2.2.2.2.2]
  rw [(he.2.2.2.2 hW).2.2.2.2.2.1] at h1
  simp only [List.mem_append]
  exact .inr (.inr (.inr h1))
structure Ap (ops : Array Oper) (e f : En) : Prop where
 d1 : ∀ t ∈ f.o.looksAt ops, e.o.dst ≠ some t
 d2 : ∀ t ∈ e.o.looksAt ops, f.o.dst ≠ some t
 d3 : ∀ d, e.o.dst = some d -> f.o.dst ≠ some d
 u1 : ∀ id ∈ e.ups.map (·.1), id ∉ f.f.foot ++ f.f.w
 u2 : ∀ id ∈ f.ups.map (·.1), id ∉ e.f.foot
 t1 : ∀ id ∈ e.tk, id ∉ f.f.res
 t2 : e.tk = [] ∨ f.f.cl = true
 t3 : ∀ id ∈ f.tk, id ∉ e.f.tch
theorem Qm7 {i j : Nat} {e f : En} (he : EnOk X ops i e) (hf : EnOk X ops j f) (h : apartI ops e.f f.f = true) : Ap ops e f := by
 unfold apartI at h
 simp only [Bool.and_eq_true, Bool.or_eq_true, Qdo, Qq7] at h
 obtain ⟨⟨⟨⟨⟨h1, h2⟩, h3⟩, h4⟩, h5⟩, h6⟩ := h
 rw [he.2.1, hf.2.1] at h1
 obtain ⟨a1, a2, a3⟩ := Oper.apart_spec h1
 refine ⟨fun t ht hd => a1 t hd ht, fun t ht hd => a3 t hd ht, fun d hd => a2 d hd, fun id hid => h2 id (he.ups id hid).2, fun id hid => h3 id (hf.ups id hid).2, fun id hid => h4 id (he.tk id hid).2, ?_, fun id hid => h6 id (hf.tk id hid).2⟩
 rcases h5 with h5 | h5
 ·left
  cases hh : e.tk with
  | nil => rfl
  | cons x l =>
   have := (he.tk x (by rw [hh]; simp)).2
   rw [h5] at this; cases this
 ·exact .inr h5
theorem Qpq (hA : TyAll P X) (hC : ConOk P X) {Q : Exit -> Act -> World -> Prop} {es : List En} {s sN : St} (hops : es.map (·.o) = ops.toList) (hch : Chain es s sN)
  (hen : ∀ (k : Nat) (e : En), es[k]? = some e -> EnOk X ops k e /\ backE e.o k = true) (hpair : ∀ (k k' : Nat) (e e' : En), k < k' -> es[k]? = some e -> es[k']? = some e' -> Pair ops (closure ops.toList) e.f e'.f)
  (hQ : ∀ a w, Inv X w0 st0 ρ0 φ0 s0 a w sN -> Q .normal a w) : ∀ (fuel : Nat) (listed : Array Bool) (a : Act) (w : World), listed.size = ops.size -> unl listed ops.size <= fuel ->
   Down ops (fun i => listed.getD i false = true) -> Inv X w0 st0 ρ0 φ0 s0 a w (prodS (fun i => listed.getD i false) es 0 s) -> wpAny P .any ops Q fuel listed a w := by
 have hlen : es.length = ops.size := by rw [<- Array.length_toList, <- hops, List.length_map]
 have hop : ∀ k, ops[k]? = (es[k]?).map (fun e : En => e.o) := fun k => by rw [<- Array.getElem?_toList, <- hops, List.getElem?_map]
 have hdone : ∀ (listed : Array Bool) (a : Act) (w : World), listed.size = ops.size -> Down ops (fun i => listed.getD i false = true) -> Region.ready .any ops listed = [] ->
   Inv X w0 st0 ρ0 φ0 s0 a w (prodS (fun i => listed.getD i false) es 0 s) -> Q .normal a w := by
  intro listed a w hsz hdn hr hi
  have hall : ∀ i, i < ops.size -> listed.getD i false = true := by
   intro i
   induction i using Nat.strongRecOn with
   | _ i ih =>
    intro hlt
    cases hb : listed.getD i false
    ·exfalso
     have hm : i ∈ Region.ready .any ops listed := by
      obtain ⟨e, he⟩ : ∃ e, es[i]? = some e := ⟨es[i]'(by omega), List.getElem?_eq_getElem _⟩
      refine mem_ready.2 ⟨by rw [Qlv (by omega)]; exact hb, e.o, by rw [hop, he]; rfl, fun ed hed hbd => ?_⟩
      have := (hen i e he).2
      unfold backE at this
      have := List.all_eq_true.1 this ed (by simpa using hed)
      rw [hbd] at this
      have : ed.on < i := by simpa [Nat.blt_eq] using this
      exact ih ed.on this (by omega)
     rw [hr] at hm; cases hm
    ·rfl
  rw [Qlu hch (fun k _ hk => hall k (by omega))] at hi
  exact hQ a w hi
 intro fuel
 induction fuel with
 | zero =>
  intro listed a w hsz hf hdn hi
  have hr : Region.ready .any ops listed = [] := by
   cases hrr : Region.ready .any ops listed with
   | nil => rfl
   | cons j l =>
    have hm : j ∈ Region.ready .any ops listed := by rw [hrr]; simp
    obtain ⟨h1, o, h2, _⟩ := mem_ready.1 hm
    have hlt : j < ops.size := (Array.getElem?_eq_some_iff.1 h2).1
    rw [Qm6 (by omega) j hlt] at h1; cases h1
  exact ⟨hr, hdone listed a w hsz hdn hr hi⟩
 | succ fuel ih =>
  intro listed a w hsz hf hdn hi
  refine ⟨fun hr => hdone listed a w hsz hdn hr hi, fun j hj => ?_⟩
  obtain ⟨h1, o, h2, h3⟩ := mem_ready.1 hj
  have hlt : j < ops.size := (Array.getElem?_eq_some_iff.1 h2).1
  have h1' : listed.getD j false = false := by rw [<- Qlv (by omega)]; exact h1
  obtain ⟨ej, hej⟩ : ∃ e, es[j]? = some e := ⟨es[j]'(by omega), List.getElem?_eq_getElem _⟩
  have ho : o = ej.o := by
   have := hop j; rw [h2, hej] at this; simpa using this
  obtain ⟨hok, hback⟩ := hen j ej hej
  -- around its place
  obtain ⟨pre, post, hsplit, hpre⟩ : ∃ pre post, es = pre ++ ej :: post /\ pre.length = j := by
   refine ⟨es.take j, es.drop (j + 1), ?_, by rw [List.length_take]; omega⟩
   have hlt' : j < es.length := by omega
   have e1 : es[j] = ej := by rw [List.getElem?_eq_getElem hlt'] at hej; simpa using hej
   rw [<- e1, List.getElem_cons_drop, List.take_append_drop]
  have hdn' : Down ops (fun i => (listed.setIfInBounds j true).getD i false = true) := by
   intro i oi hS hoi ed hed hb
   by_cases hij : j = i
   ·subst hij
    rw [h2] at hoi; cases hoi
    exact getD_set_true (h3 ed hed hb)
   ·simp only [getD_set_ne false hij] at hS
    exact getD_set_true (hdn i oi hS hoi ed hed hb)
  have hfi : ∀ (k : Nat) (e : En), es[k]? = some e -> e.f.i = k := fun k e hk => (hen k e hk).1.2.2.1
  have hbef : ∀ (k : Nat) (e : En), k < j -> es[k]? = some e -> listed.getD k false = false -> apartI ops e.f ej.f = true := by
   intro k e hk he hS
   rcases hpair k j e ej hk he hej with hm | hap
   ·exfalso
    rw [hfi k e he, hfi j ej hej] at hm
    have := Qh5 hdn' j (by simp [Array.getElem?_setIfInBounds, hsz, hlt]) k (Qav.1 hm)
    simp only [getD_set_ne false (show j ≠ k by omega)] at this
    rw [hS] at this; cases this
   ·exact hap
  have haft : ∀ (k : Nat) (e : En), j < k -> es[k]? = some e -> listed.getD k false = true -> apartI ops ej.f e.f = true := by
   intro k e hk he hS
   rcases hpair j k ej e hk hej he with hm | hap
   ·exfalso
    rw [hfi k e he, hfi j ej hej] at hm
    have := Qh5 hdn k hS j (Qav.1 hm)
    rw [h1'] at this; cases this
   ·exact hap
  have hpreget : ∀ (k : Nat) (e : En), pre[k]? = some e -> k < j /\ es[k]? = some e := fun k e hk => by
   have hlt := (List.getElem?_eq_some_iff.1 hk).1
   exact ⟨by omega, by rw [hsplit, List.getElem?_append_left hlt]; exact hk⟩
  have hpostget : ∀ (k : Nat) (e : En), post[k]? = some e -> es[j + 1 + k]? = some e := fun k e hk => by
   rw [hsplit, List.getElem?_append_right (by omega), show j + 1 + k - pre.length = k + 1 by omega, List.getElem?_cons_succ]; exact hk
  have hshape : ∀ S : Nat -> Bool, prodS S es 0 s = prodS S post (j + 1) (bif S j then ej.run (prodS S pre 0 s) else prodS S pre 0 s) := fun S => by
   rw [hsplit, Qh4]
   simp only [prodS, Nat.zero_add, hpre]
  have hsh : prodS (fun i => listed.getD i false) es 0 s = prodS (fun i => listed.getD i false) post (j + 1) (prodS (fun i => listed.getD i false) pre 0 s) := by
   rw [hshape]; simp only [h1', cond_false]
  have hbefA : ∀ (k : Nat) (e : En), pre[k]? = some e -> listed.getD (0 + k) false = false -> Ap ops e ej := fun k e hk hS => by
   obtain ⟨q1, q2⟩ := hpreget k e hk
   simp only [Nat.zero_add] at hS
   exact Qm7 (hen k e q2).1 hok (hbef k e q1 q2 hS)
  have haftA : ∀ (k : Nat) (e : En), post[k]? = some e -> listed.getD (j + 1 + k) false = true -> Ap ops ej e := fun k e hk hS => by
   have q2 := hpostget k e hk
   exact Qm7 hok (hen _ e q2).1 (haft _ e (by omega) q2 hS)
  have hchain := hsplit ▸ hch
  have hgd := Qn9 hok.1
  have hgdv : ∀ t ∈ gdOf ops ej.o, (prodS (fun i => listed.getD i false) es 0 s).env t = ej.s.env t := by
   obtain ⟨v1, _⟩ := Qek (S := fun i => listed.getD i false) (op := .move (.tmp 0)) (L := []) (T := gdOf ops ej.o) (rest := post) (z := sN) (s' := s) (i := 0) hchain (fun _ _ => .refl _) (fun _ _ => .refl _) (fun k e hk hS =>
    ⟨fun t ht => (hbefA k e hk hS).d1 t (Qm5 ht), by simp⟩)
   have hv0 : View (pj (.move (.tmp 0))) [] (gdOf ops ej.o) ej.s (prodS (fun i => listed.getD i false) pre 0 s) := ⟨fun t ht => by
    exact ((v1 t ht).whole (hgd t ht).1).symm, by simp⟩
   have := Qg6 (S := fun i => listed.getD i false) (es := post) (i := j + 1) hv0 (fun k e hk hS => ⟨fun t ht => (haftA k e hk hS).d2 t (Qm5 ht), by simp, fun t ht id hid => (by
    have hid : id ∈ (ej.s.env t).ids := hid
    rw [(hgd t ht).2] at hid; cases hid), by simp⟩)
   intro t ht
   rw [hsh]; exact this.1 t ht
  have hrunv : ej.W = true -> View (pj ej.o.op) (foot X ej.s ej.o ++ ej.r.up.map (·.1)) (ej.o.looksAt ops) ej.s (prodS (fun i => listed.getD i false) es 0 s) := fun hW => by
   obtain ⟨g1, g2, g3, g4, g5, g6, g7, g8⟩ := hok.2.2.2.2 hW
   have hfw : ej.f.foot ++ ej.f.w = foot X ej.s ej.o ++ ej.r.up.map (·.1) := by rw [g3, g4]
   have hv : View (pj ej.o.op) (foot X ej.s ej.o ++ ej.r.up.map (·.1)) (ej.o.looksAt ops) ej.s (prodS (fun i => listed.getD i false) pre 0 s) := by
    cases hcl : ej.f.cl
    ·exact Qh3 (rest := post) (z := sN) hchain ⟨fun _ _ => rfl, fun _ _ => rfl⟩ (fun k e hk hS => by
      have hap := hbefA k e hk hS
      refine ⟨hap.t2.resolve_right (by rw [hcl]; simp), hap.d1, fun id hid h => hap.u1 id h (by rw [hfw]; exact hid)⟩)
    ·obtain ⟨v1, v2⟩ := Qek (S := fun i => listed.getD i false) (op := ej.o.op) (L := foot X ej.s ej.o ++ ej.r.up.map (·.1)) (T := ej.o.looksAt ops) (rest := post) (z := sN) (s' := s) (i := 0) hchain (fun _ _ => .refl _) (fun _ _ => .refl _) (fun k e hk hS => by
      have hap := hbefA k e hk hS
      exact ⟨hap.d1, fun id hid h => hap.u1 id h (by rw [hfw]; exact hid)⟩)
     have v3 := Qi2 (S := fun i => listed.getD i false) (L := ej.r.up.map (·.1)) (rest := post) (z := sN) (s' := s) (i := 0) hchain (fun _ _ h => h) (fun k e hk hS id hid => by
      have hap := hbefA k e hk hS
      refine ⟨fun h => hap.u1 id h (by rw [hfw]; simp only [List.mem_append]; exact .inr hid), fun h => hap.t1 id h ?_⟩
      rw [g6]; unfold resOf; simp only [List.mem_append]; exact .inl hid)
     obtain ⟨w1, w2⟩ := g7 hcl
     refine ⟨fun t ht => ((v1 t ht).whole (w1 t ht)).symm, fun id hid => ?_⟩
     by_cases hwh : (ej.s.hp id).whole = true
     ·exact ((v2 id hid).whole hwh).symm
     ·have hup : id ∈ ej.r.up.map (·.1) := (List.mem_append.1 hid).resolve_left (fun h => hwh (w2 id h))
      have hnone : ej.s.hp id = .none ∨ ∃ S v, ej.s.hp id = .box S v := by
       cases ho : ej.s.hp id with
       | none => exact .inl rfl
       | box S v => exact .inr ⟨S, v, rfl⟩
       | _ => rw [ho] at hwh; exact absurd rfl hwh
      rcases hnone with hn | ⟨S, v, hb⟩
      ·rw [hn]; exact v3 id hup hn
      ·exfalso
       -- what is turned lies in the foot
       have hnew : newOk ej.s (foot X ej.s ej.o) ej.r.up = true := by
        have hst := g1
        unfold step at hst
        simp only [g2] at hst
        cases hcond : (dstOk X ej.o.dst && newOk ej.s (foot X ej.s ej.o) ej.r.up && nodup (ej.r.up.map (·.1)) && disj (ej.r.up.map (·.1)) ej.r.dr && subl ej.r.dr (foot X ej.s ej.o)) <;> rw [hcond] at hst
        ·cases hst
        ·simp only [Bool.and_eq_true] at hcond; exact hcond.1.1.1.2
       obtain ⟨q, hq, rfl⟩ := List.mem_map.1 hup
       exact hwh (w2 _ ((Qeu hnew hq).2 (by rw [hb]; simp)))
   rw [hsh]
   refine Qg6 hv (fun k e hk hS => ?_)
   have hap := haftA k e hk hS
   have htch : ∀ id ∈ e.tk, id ∉ lkOf ops ej.o ej.s ++ (foot X ej.s ej.o ++ (((foot X ej.s ej.o).flatMap fun id => (ej.s.hp id).ids) ++ resOf ej.r)) := fun id hid h => hap.t3 id hid (by rw [g8]; exact h)
   refine ⟨hap.d2, fun id hid h => ?_, fun t ht id hid h => htch id h ?_, fun id hid => ⟨fun h => htch id h ?_, fun q hq h => ?_⟩⟩
   ·rcases List.mem_append.1 hid with hid | hid
    ·exact hap.u2 id h (by rw [g3]; exact hid)
    ·exact hap.u1 id (by unfold En.ups; rw [hW]; exact hid) (by
      obtain ⟨hWe, hw⟩ := (hen _ e (hpostget k e hk)).1.ups id h
      simp only [List.mem_append]; exact .inr hw)
   ·simp only [List.mem_append]; left; unfold lkOf; exact List.mem_flatMap.2 ⟨t, ht, hid⟩
   ·simp only [List.mem_append]
    rcases List.mem_append.1 hid with hid | hid
    ·exact .inr (.inl hid)
    ·right; right; right; unfold resOf; simp only [List.mem_append]; exact .inl hid
   ·rcases List.mem_append.1 hid with hid | hid
    ·refine htch q h ?_
     simp only [List.mem_append, List.mem_flatMap]
     exact .inr (.inr (.inl ⟨id, hid, hq⟩))
    ·by_cases hf : id ∈ foot X ej.s ej.o
     ·refine htch q h ?_
      simp only [List.mem_append, List.mem_flatMap]
      exact .inr (.inr (.inl ⟨id, hf, hq⟩))
     ·have hnew : newOk ej.s (foot X ej.s ej.o) ej.r.up = true := by
       have hst := g1
       unfold step at hst
       simp only [g2] at hst
       cases hcond : (dstOk X ej.o.dst && newOk ej.s (foot X ej.s ej.o) ej.r.up && nodup (ej.r.up.map (·.1)) && disj (ej.r.up.map (·.1)) ej.r.dr && subl ej.r.dr (foot X ej.s ej.o)) <;> rw [hcond] at hst
       ·cases hst
       ·simp only [Bool.and_eq_true] at hcond; exact hcond.1.1.1.2
      obtain ⟨q', hq', rfl⟩ := List.mem_map.1 hid
      have := (Qeu hnew hq').2
      by_cases hn : ej.s.hp q'.1 = .none
      ·rw [hn] at hq; cases hq
      ·exact hf (this hn)
  have hrun : ej.run (prodS (fun i => listed.getD i false) es 0 s) = prodS (fun i => (listed.setIfInBounds j true).getD i false) es 0 s := by
   rw [hshape, hshape]
   have e1 : prodS (fun i => (listed.setIfInBounds j true).getD i false) pre 0 s = prodS (fun i => listed.getD i false) pre 0 s :=
    Qge fun k _ hk => getD_set_ne false (by omega)
   have e2 : ∀ s', prodS (fun i => (listed.setIfInBounds j true).getD i false) post (j + 1) s' = prodS (fun i => listed.getD i false) post (j + 1) s' := fun s' =>
    Qge fun k hk _ => getD_set_ne false (by omega)
   have e3 : (listed.setIfInBounds j true).getD j false = true := by simp [Array.getElem?_setIfInBounds, hsz, hlt]
   rw [e1, e2]
   simp only [h1', e3, cond_false, cond_true]
   refine Qkh fun k e hk hS s' => ?_
   have q2 := hpostget k e hk
   have hap := haftA k e hk hS
   exact En.comm ej e (fun id hid h => hap.t1 id hid ((hen _ e q2).1.res id h)) (fun id hid h => hap.t3 id hid (hok.res_tch id h)) hap.d3 (fun id hid hid' => hap.u1 id hid (by
    simp only [List.mem_append]; exact .inr ((hen _ e q2).1.ups id hid').2)) s'
  have hnext : ∀ a' w', Inv X w0 st0 ρ0 φ0 s0 a' w' (ej.run (prodS (fun i => listed.getD i false) es 0 s)) -> wpAny P .any ops Q fuel (listed.setIfInBounds j true) a' w' := fun a' w' hi' => by
   refine ih _ a' w' (by simpa using hsz) ?_ hdn' (hrun ▸ hi')
   have := Qox h1 ops.size
   rw [if_pos hlt] at this; omega
  unfold wpOp
  rw [h2]
  simp only
  subst ho
  cases hW : ej.W
  ·have hv := hgdv
   have hw : wantedA ops ej.o (prodS (fun i => listed.getD i false) es 0 s) = some false := by rw [Qi1 hv, hok.1, hW]
   rw [Qfq hi hw]
   simp only [Bool.false_eq_true, if_false]
   refine hnext _ _ ?_
   have : ej.run (prodS (fun i => listed.getD i false) es 0 s) = (prodS (fun i => listed.getD i false) es 0 s).put ej.o.dst .tnil := by unfold En.run; rw [hW]; rfl
   rw [this]
   exact hi.skip hok.2.2.2.1
  ·obtain ⟨g1, g2, g3, g4, g5⟩ := hok.2.2.2.2 hW
   have hv := hrunv hW
   have hw : wantedA ops ej.o (prodS (fun i => listed.getD i false) es 0 s) = some true := by rw [Qi1 hgdv, hok.1, hW]
   rw [Qfq hi hw]
   simp only [if_true]
   have hst := Qq3 hv g2 g1
   refine .inl (hi.step hA hC hst fun v w' hi' => hnext _ _ ?_)
   have : ej.run (prodS (fun i => listed.getD i false) es 0 s) = (prodS (fun i => listed.getD i false) es 0 s).app ej.o.dst ej.r := by unfold En.run; rw [hW]; rfl
   rw [this]
   exact hi'
theorem Qq8 {R : Type} (hA : TyAll P X) (hC : ConOk P X) (hm : P.follows .mixedOrders = true) {K : St -> Option R} {y0 : R} {Q : Exit -> Act -> World -> Prop}
  (hK : ∀ a w s, Inv X w0 st0 ρ0 φ0 s0 a w s -> K s = some y0 -> Q .normal a w) {id : Nat} (hi : Inv X w0 st0 ρ0 φ0 s0 a w s) (h : evDraw X ops (closure ops.toList) ops.toList 0 [] s K = some y0) : (Code.region id ops true).wp P Q a w := by
 obtain ⟨es, sN, g1, g2, g3, g4, g5, g6⟩ := Qh6 h
 refine wp_region_any hm (Qpq hA hC g1 g2 (fun k e hk => by have := g4 k e hk; rwa [Nat.zero_add] at this) g6 (fun a w hi => hK a w sN hi g3) _ _ _ _ (by simp) ?_ ?_ ?_)
 ·have : ∀ n, unl (Array.replicate ops.size false) n <= n := by
   intro n
   induction n with
   | zero => exact Nat.le_refl _
   | succ n ih =>
    simp only [unl]
    cases (Array.replicate ops.size false).getD n true <;> simp <;> omega
  exact this _
 ·intro j o hj
  exfalso
  have hj : (Array.replicate ops.size false).getD j false = true := hj
  simp [Array.getD_eq_getD_getElem?, Array.getElem?_replicate] at hj
  split at hj <;> simp at hj
 ·have e1 : prodS (fun i => (Array.replicate ops.size false).getD i false) es 0 s = s := by
   have key : ∀ (l : List En) (i : Nat) (s : St), prodS (fun i => (Array.replicate ops.size false).getD i false) l i s = s := by
    intro l
    induction l with
    | nil => intro i s; rfl
    | cons e l ih =>
     intro i s
     simp only [prodS]
     have : (Array.replicate ops.size false).getD i false = false := by
      simp [Array.getD_eq_getD_getElem?, Array.getElem?_replicate]
      split <;> rfl
     rw [this]; exact ih _ _
   exact key es 0 s
  rw [e1]
  obtain ⟨st, ρ, φ, h1, h2⟩ := hi
  refine ⟨st, ρ, φ, h1.world (fun _ _ => rfl) (fun _ _ _ => rfl) (Nat.le_refl _), ?_⟩
  exact ⟨h2.os, h2.tape, h2.output, h2.size, h2.keep, h2.st1, h2.st2, h2.ow, h2.pid⟩
end
end Go.Vm

set_option linter.unusedVariables false
set_option linter.unusedSimpArgs false
namespace Go.Vm
section
variable {X : Ctx} {w : World} {st : Blks} {ρ : Nat -> Value} {φ : Nat -> Blks} {n : Nat} {a : Act} {s : St}
theorem Qoy {T : TypeId} {e : Sh} {xs : List e.den} {r : Value} {i : Int} {p : List Bool} {b of : Nat} {sh : Sh} {y : sh.den} (h : Im w st (.sl T e) xs [r]) (hp : PtrAt (.arr T e xs) r (some i) p b of) (hg : getT e (rdL xs i) p = some ⟨sh, y⟩) :
  ∃ cc, st b /\ Im w st sh y cc /\ ∀ j v, cc[j]? = some v -> w.cell? ⟨b, of + j, none⟩ = some v := by
 obtain ⟨T', e', xs', s', l, c, h1, h2, h3, h4, h5, h6⟩ := hp
 cases h1.of_arr rfl
 obtain ⟨A, cap, g1, g2, g3⟩ := h
 have hne : xs ≠ [] := by intro e; subst e; simp at h4
 obtain ⟨b', o', rfl, hst, hel⟩ := g3 hne
 rw [h2] at g1
 simp only [List.cons.injEq, Value.slice.injEq, Option.some.injEq, Addr.mk.injEq] at g1
 obtain ⟨⟨⟨rfl, rfl, _⟩, _, _⟩, _⟩ := g1
 obtain ⟨cc, q1, q2⟩ := hel i.toNat _ (Qde h4)
 refine ⟨_, hst, Qeo q1 hg, fun j v hj => ?_⟩
 rw [List.getElem?_take] at hj
 split at hj
 ·rw [List.getElem?_drop] at hj
  have := q2 _ v hj
  rw [<- this]; congr 2; omega
 ·cases hj
def fzO (id : Nat) (T : TypeId) (e : Sh) (xs : List e.den) (O : Nat -> Ob) : Nat -> Ob := fun j => bif Nat.beq j id then .none else (O j).mapA (AV.fz id T e xs)
theorem Qd4 {i j : Nat} (h : i ≠ j) : Nat.beq i j = false := by
 rw [Bool.eq_false_iff]; intro e; exact h (Nat.eq_of_beq_eq_true e)
theorem Qcq (i : Nat) : Nat.beq i i = true := Nat.beq_eq ▸ rfl
theorem Qev {id j : Nat} {T : TypeId} {e : Sh} {xs : List e.den} {O : Nat -> Ob} (h : j ≠ id) : fzO id T e xs O j = (O j).mapA (AV.fz id T e xs) := by
 unfold fzO; rw [Qd4 h]; rfl
theorem Qkk {f : AV -> AV} {o : Ob} {r : Value} {ix : Option Int} {p : List Bool} {b of : Nat} (h : PtrAt o r ix p b of) : PtrAt (o.mapA f) r ix p b of := by
 cases ix with
 | none =>
  obtain ⟨S, s, h1, h2⟩ := h
  refine ⟨S, s, ?_, h2⟩
  rcases h1 with ⟨v, rfl⟩ | ⟨x, rfl⟩
  ·exact .inl ⟨f v, rfl⟩
  ·exact .inr ⟨x, rfl⟩
 | some i =>
  obtain ⟨T, e, xs, s, l, c, h1, h2⟩ := h
  exact ⟨T, e, xs, s, l, c, h1.mapA f, h2⟩
theorem Qi3 {o : Ob} {T : TypeId} {e : Sh} {xs : List e.den} {r : Value} {i : Int} {p : List Bool} {b of : Nat} (ho : IsArr o T e xs) (h : PtrAt o r (some i) p b of) : PtrAt (.arr T e xs) r (some i) p b of := by
 obtain ⟨T', e', xs', s, l, c, h1, h2⟩ := h
 refine ⟨T', e', xs', s, l, c, ?_, h2⟩
 rcases ho with ho | ho
 ·rw [<- ho]; exact h1
 ·cases h1.of_iarr ho; exact .inl rfl
variable {st' : Blks} {O : Nat -> Ob} {id : Nat} {T : TypeId} {e : Sh} {xs : List e.den}
theorem Qq9 : ∀ {v : AV} {j : Nat}, j ∈ (v.fz id T e xs).ids -> j ∈ v.ids /\ j ≠ id := by
 intro v
 induction v with
 | pair a b iha ihb =>
  intro j h
  simp only [AV.fz] at h
  simp only [AV.ids, List.mem_append]
  rcases Qch h with h | h
  ·exact ⟨.inl (iha h).1, (iha h).2⟩
  ·exact ⟨.inr (ihb h).1, (ihb h).2⟩
 | tcons a b iha ihb =>
  intro j h
  simp only [AV.fz, AV.ids, List.mem_append] at h ⊢
  rcases h with h | h
  ·exact ⟨.inl (iha h).1, (iha h).2⟩
  ·exact ⟨.inr (ihb h).1, (ihb h).2⟩
 | sref k ix p =>
  intro j h
  simp only [AV.fz] at h
  by_cases hk : k = id
  ·subst hk
   rw [Qcq] at h
   cases ix with
   | none => simp [AV.ids] at h
   | some i =>
    simp only [cond_true] at h
    split at h <;> simp [AV.ids] at h
  ·rw [Qd4 hk] at h
   simp [AV.ids] at h ⊢
   subst h; exact ⟨rfl, hk⟩
 | ptr k ix p =>
  intro j h
  simp only [AV.fz] at h
  by_cases hk : k = id
  ·subst hk
   rw [Qcq] at h
   cases ix with
   | none => simp [AV.ids] at h
   | some i =>
    simp only [cond_true] at h
    split at h <;> simp [AV.ids] at h
  ·rw [Qd4 hk] at h
   simp [AV.ids] at h ⊢
   subst h; exact ⟨rfl, hk⟩
 | fn f caps =>
  intro j h
  simp only [AV.fz] at h
  cases hm : mem id caps <;> rw [hm] at h
  ·simp only [cond_false, AV.ids] at h ⊢
   exact ⟨h, fun e => Qaq.1 hm (e ▸ h)⟩
  ·simp [AV.ids] at h
 | _ => intro j h; simp [AV.fz, AV.ids] at h
theorem Qum (hO : IsArr (O id) T e xs) : ∀ {v : AV} {S : Sh}, Fit O S v -> Fit (fzO id T e xs O) S (v.fz id T e xs) := by
 intro v
 induction v with
 | pair a b iha ihb =>
  intro S h
  cases S with
  | pair p q => exact Qb5 (iha h.1) (ihb h.2)
  | _ => exact h.elim
 | val s x => intro S h; cases S <;> exact h
 | nilv T' e' =>
  intro S h
  cases S with
  | sl _ _ => exact h
  | _ => exact h.elim
 | unk =>
  intro S h
  cases S with
  | sl _ _ => exact h
  | _ => exact h.elim
 | sref k ix p =>
  intro S h
  cases S with
  | sl T' e' =>
   obtain ⟨ys, rfl, rfl, hk⟩ := h
   simp only [AV.fz]
   by_cases hki : k = id
   ·subst hki
    have hk : T' = T /\ e' = e := by
     rcases hO with hO | hO
     ·cases hk.of_arr hO; exact ⟨rfl, rfl⟩
     ·cases hk.of_iarr hO; exact ⟨rfl, rfl⟩
    obtain ⟨rfl, rfl⟩ := hk
    rw [Qcq]; exact rfl
   ·rw [Qd4 hki]
    refine ⟨ys, rfl, rfl, ?_⟩
    rw [Qev hki]; exact hk.mapA _
  | _ => exact h.elim
 | _ => intro S h; cases S <;> exact h.elim
theorem RC_fz (hO : IsArr (O id) T e xs) (hst : ∀ b, st b -> st' b) (him : Im w st' (.sl T e) xs [ρ id]) : ∀ {v : AV} {cs : List Value}, RC w st ρ O v cs -> RC w st' ρ (fzO id T e xs O) (v.fz id T e xs) cs := by
 intro v
 induction v with
 | unk => intro cs h; exact h
 | val S x => intro cs h; exact Im_up hst h
 | pair a b iha ihb =>
  rintro cs ⟨c1, c2, rfl, h1, h2⟩
  exact Qb7 (iha h1) (ihb h2)
 | nilv _ _ => intro cs h; exact h
 | iptr S x =>
  rintro cs ⟨b, o, cc, h1, h2, h3, h4⟩
  exact ⟨b, o, cc, h1, hst b h2, Im_up hst h3, h4⟩
 | nq e => intro cs h; exact h
 | fn f caps =>
  intro cs h
  have h : cs = _ := h
  simp only [AV.fz]
  cases hm : mem id caps
  ·exact h
  ·exact ⟨_, h, rfl⟩
 | tnil => intro cs h; exact h.elim
 | tcons _ _ _ _ => intro cs h; exact h.elim
 | ptr k ix p =>
  intro cs h
  simp only [AV.fz]
  by_cases hk : k = id
  ·subst hk
   rw [Qcq]
   obtain ⟨b, o, h1, rfl⟩ := h
   cases ix with
   | none => exact ⟨_, rfl, rfl⟩
   | some i =>
    simp only [cond_true]
    cases hg : getT e (rdL xs i) p with
    | none => exact ⟨_, rfl, rfl⟩
    | some q =>
     obtain ⟨sh, y⟩ := q
     obtain ⟨cc, g1, g2, g3⟩ := Qoy him (Qi3 hO h1) hg
     exact ⟨b, o, cc, rfl, g1, g2, g3⟩
  ·rw [Qd4 hk]
   obtain ⟨b, o, h1, h2⟩ := h
   refine ⟨b, o, ?_, h2⟩
   rw [Qev hk]; exact Qkk h1
 | sref k ix p =>
  intro cs h
  simp only [AV.fz]
  by_cases hk : k = id
  ·subst hk
   rw [Qcq]
   cases ix with
   | none =>
    obtain ⟨rfl, _, rfl, _⟩ := h
    exact him
   | some i =>
    obtain ⟨b, o, v, h1, h2, h3, rfl, h5⟩ := h
    simp only [cond_true]
    cases hg : getT e (rdL xs i) p with
    | none => exact ⟨_, rfl, h5⟩
    | some q =>
     obtain ⟨sh, y⟩ := q
     obtain ⟨T', e', hs⟩ := h2 _ _ _ hO
     have : sh = .sl T' e' := by
      have := Qcb hg
      rw [hs] at this; cases this; rfl
     subst this
     obtain ⟨cc, g1, g2, g3⟩ := Qoy him (Qi3 hO h1) hg
     have hl := Qbn g2
     match cc, hl with
     | [u], _ =>
      have := g3 0 u rfl
      rw [Nat.add_zero, h3] at this
      cases this
      exact g2
  ·rw [Qd4 hk]
   cases ix with
   | none =>
    obtain ⟨h1, ⟨T', e', ys, h2⟩, h3⟩ := h
    refine ⟨h1, ⟨T', e', ys, ?_⟩, h3⟩
    rw [Qev hk]; exact h2.mapA _
   | some i =>
    obtain ⟨b, o, v, h1, h2, h3⟩ := h
    refine ⟨b, o, v, ?_, fun T1 e1 ys hh => ?_, h3⟩
    ·rw [Qev hk]; exact Qkk h1
    ·rw [Qev hk] at hh
     cases hO2 : O k with
     | arr T2 e2 zs =>
      rw [hO2] at hh
      cases IsArr.of_arr hh rfl
      exact h2 _ _ _ (.inl hO2)
     | iarr T2 e2 zs =>
      rw [hO2] at hh
      cases IsArr.of_iarr hh rfl
      exact h2 _ _ _ (.inr hO2)
     | box S v => rw [hO2] at hh; exact (IsArr.not_box (S := S) (v := v.fz id T e xs) hh).elim
     | cbox S v => rw [hO2] at hh; exact (IsArr.not_cbox (S := S) (v := v) hh).elim
     | none => rw [hO2] at hh; rcases hh with hh | hh <;> cases hh
theorem Qu0 {v : AV} (h : ∀ cs, RC w st ρ O v cs -> True) : (v.fz id T e xs).agg = v.agg ∨ v.agg = false := by
 cases v with
 | pair a b =>
  left
  show (mkPair _ _).agg = true
  cases (a.fz id T e xs) <;> cases (b.fz id T e xs) <;> rfl
 | val s x => exact .inl rfl
 | _ => exact .inr rfl
theorem Qra (hO : IsArr (O id) T e xs) (hst : ∀ b, st b -> st' b) (him : Im w st' (.sl T e) xs [ρ id]) {v : AV} {x : Value} (h : RV1 w st ρ O v x) : RV1 w st' ρ (fzO id T e xs O) (v.fz id T e xs) x := by
 rcases h with rfl | ⟨h1, cs, h2, h3⟩ | ⟨h1, h2⟩
 ·exact .inl rfl
 ·refine .inr (.inl ⟨?_, cs, h2, RC_fz hO hst him h3⟩)
  cases v with
  | pair a b =>
   show (mkPair _ _).agg = true
   cases (a.fz id T e xs) <;> cases (b.fz id T e xs) <;> rfl
  | val s y => exact h1
  | _ => cases h1
 ·have hr := RC_fz hO hst him h2
  by_cases hu : v.fz id T e xs = .unk
  ·exact .inl hu
  refine .inr (.inr ⟨?_, hr⟩)
  cases v with
  | pair a b => cases h1
  | val s y => exact h1
  | sref k ix p =>
   simp only [AV.fz] at hu ⊢
   by_cases hk : k = id
   ·subst hk
    rw [Qcq] at hu ⊢
    cases ix with
    | none => rfl
    | some i =>
     obtain ⟨b, o, v, q1, q2, q3, _, q5⟩ := h2
     obtain ⟨T', e', hs⟩ := q2 _ _ _ hO
     simp only [cond_true] at hu ⊢
     cases hg : getT e (rdL xs i) p with
     | none => rfl
     | some q =>
      obtain ⟨sh, y⟩ := q
      have : sh = .sl T' e' := by
       have := Qcb hg
       rw [hs] at this; cases this; rfl
      subst this
      rfl
   ·rw [Qd4 hk]; rfl
  | ptr k ix p =>
   simp only [AV.fz] at hu ⊢
   by_cases hk : k = id
   ·subst hk
    rw [Qcq] at hu ⊢
    cases ix with
    | none => rfl
    | some i =>
     simp only [cond_true] at hu ⊢
     cases hg : getT e (rdL xs i) p <;> rfl
   ·rw [Qd4 hk]; rfl
  | fn f caps =>
   simp only [AV.fz] at hu ⊢
   cases hm : mem id caps <;> rfl
  | _ => rfl
theorem RT_fz (hO : IsArr (O id) T e xs) (hst : ∀ b, st b -> st' b) (him : Im w st' (.sl T e) xs [ρ id]) : ∀ {v : AV} {us : List Value}, RT w st ρ O v us -> RT w st' ρ (fzO id T e xs O) (v.fz id T e xs) us
 | .tnil, _, h => h
 | .tcons a b, _, ⟨u, r, h1, h2, h3⟩ => ⟨u, r, h1, Qra hO hst him h2, RT_fz hO hst him h3⟩
theorem Qrb {v : AV} : (v.fz id T e xs).isTup = v.isTup := by
 cases v with
 | pair a b =>
  show (mkPair _ _).isTup = false
  cases (a.fz id T e xs) <;> cases (b.fz id T e xs) <;> rfl
 | sref k ix p =>
  simp only [AV.fz]
  cases Nat.beq k id
  ·rfl
  ·cases ix with
   | none => rfl
   | some i => simp only [cond_true]; cases getT e (rdL xs i) p <;> rfl
 | ptr k ix p =>
  simp only [AV.fz]
  cases Nat.beq k id
  ·rfl
  ·cases ix with
   | none => rfl
   | some i => simp only [cond_true]; cases getT e (rdL xs i) p <;> rfl
 | fn f caps => simp only [AV.fz]; cases mem id caps <;> rfl
 | _ => rfl
theorem RV_fz (hO : IsArr (O id) T e xs) (hst : ∀ b, st b -> st' b) (him : Im w st' (.sl T e) xs [ρ id]) {v : AV} {x : Value} (h : RV w st ρ O v x) : RV w st' ρ (fzO id T e xs O) (v.fz id T e xs) x := by
 rcases h with ⟨h1, vs, h2, h3⟩ | ⟨h1, h2⟩
 ·exact .inl ⟨by rw [Qrb]; exact h1, vs, h2, RT_fz hO hst him h3⟩
 ·exact .inr ⟨by rw [Qrb]; exact h1, Qra hO hst him h2⟩
theorem Qtt (h : Sim w st ρ φ n a s) (hO : s.hp id = .iarr T e xs) : Im w (fun b => st b ∨ φ id b) (.sl T e) xs [ρ id] := by
 have hob := h.ob id
 rw [hO] at hob
 rcases hob with ⟨rfl, A, hA⟩ | ⟨b, cap, arr, h1, h2, h3, h4, h5, h6⟩
 ·exact ⟨A, 0, by rw [hA]; rfl, Nat.le_refl _, fun h => absurd rfl h⟩
 ·refine ⟨_, cap, by rw [h1], h4, fun _ => ⟨b, 0, rfl, .inr h2, fun i x hx => ?_⟩⟩
  refine ⟨_, Im_up (fun _ h => .inl h) (h6 i x hx), fun j v hv => ?_⟩
  rw [Nat.zero_add]
  exact Qbo h3 j v hv
theorem Sim.fz (h : Sim w st ρ φ n a s) (hO : IsArr (s.hp id) T e xs) : Sim w (fun b => st b ∨ φ id b) ρ (fun j b => φ j b /\ j ≠ id) n a ⟨fun t => (s.env t).fz id T e xs, fzO id T e xs s.hp⟩ := by
 have him : Im w (fun b => st b ∨ φ id b) (.sl T e) xs [ρ id] := by
  rcases hO with hO | hO
  ·have hob := h.ob id
   rw [hO] at hob
   exact Ow_Im (fun b hb => .inr hb) hob
  ·exact Qtt h hO
 have hst : ∀ b, st b -> (fun b => st b ∨ φ id b) b := fun b hb => .inl hb
 have hlive : ∀ j, j ≠ id -> s.hp j ≠ .none -> fzO id T e xs s.hp j ≠ .none := fun j hj hn => by
  rw [Qev hj]; intro e; exact hn (Ob.mapA_none.1 e)
 refine ⟨h.nt, h.df, fun t ht => by show (s.env t).fz id T e xs = _; rw [h.hi t ht]; rfl, fun t => RV_fz hO hst him (h.env t), fun j => ?_, fun j b hb => ⟨(h.lt j b hb.1).1, ?_⟩, fun i j b h1 h2 => h.dj i j b h1.1 h2.1, fun t j hj => ?_, fun k j hj => ?_, ?_⟩
 ·by_cases hj : j = id
  ·subst hj
   show ObR _ _ _ _ _ _ (fzO j T e xs s.hp j)
   have : fzO j T e xs s.hp j = .none := by unfold fzO; rw [Qcq]; rfl
   rw [this]
   exact fun b hb => hb.2 rfl
  ·show ObR _ _ _ _ _ _ (fzO id T e xs s.hp j)
   rw [Qev hj]
   have ho := h.ob j
   cases hq : s.hp j with
   | none => rw [hq] at ho; exact fun b hb => ho b hb.1
   | box S v =>
    rw [hq] at ho
    obtain ⟨b, arr, T', g1, g2, g3, g4, g5⟩ := ho
    exact ⟨b, arr, T', g1, ⟨g2, hj⟩, g3, Qum hO g4, RC_fz hO hst him g5⟩
   | cbox S x =>
    rw [hq] at ho
    obtain ⟨b, arr, T', fz, g1, g2, g3, g4, g5⟩ := ho
    exact ⟨b, arr, T', fz, g1, .inl g2, g3, Im_up hst g4, fun b hb => g5 b hb.1⟩
   | arr T' e' ys =>
    rw [hq] at ho
    exact Ow_up (fun b hb => ⟨hb, hj⟩) ho
   | iarr T' e' ys =>
    rw [hq] at ho
    exact Qgd hst (fun _ _ => rfl) rfl (fun b hb => ⟨⟨hb, hj⟩, rfl⟩) ho
 ·rintro (hs | hs)
  ·exact (h.lt j b hb.1).2 hs
  ·exact hb.2 (h.dj j id b hb.1 hs)
 ·obtain ⟨g1, g2⟩ := Qq9 hj
  exact hlive j g2 (h.wf t j g1)
 ·have hj : j ∈ (fzO id T e xs s.hp k).ids := hj
  have hlv : j ∈ (s.hp k).ids /\ j ≠ id := by
   by_cases hk : k = id
   ·subst hk
    have : fzO k T e xs s.hp k = .none := by unfold fzO; rw [Qcq]; rfl
    rw [this] at hj; cases hj
   ·rw [Qev hk] at hj
    cases hq : s.hp k with
    | box S v => rw [hq] at hj; exact Qq9 hj
    | none => rw [hq] at hj; cases hj
    | cbox _ _ => rw [hq] at hj; cases hj
    | arr _ _ _ => rw [hq] at hj; cases hj
    | iarr _ _ _ => rw [hq] at hj; cases hj
  exact hlive j hlv.2 (h.wfh k j hlv.1)
 ·rintro b (hb | hb)
  ·exact h.stlt b hb
  ·exact (h.lt id b hb).1
variable {w0 : World} {st0 : Blks} {ρ0 : Nat -> Value} {φ0 : Nat -> Blks} {s0 s' : St}
theorem Inv.fzId (h : Inv X w0 st0 ρ0 φ0 s0 a w s) (hs : s.fzId id = some s') : Inv X w0 st0 ρ0 φ0 s0 a w s' := by
 unfold St.fzId at hs
 obtain ⟨T, e, xs, hq, hs⟩ : ∃ T e xs, IsArr (s.hp id) T e xs /\ s' = ⟨fun t => (s.env t).fz id T e xs, fun j => bif Nat.beq j id then .none else (s.hp j).mapA (AV.fz id T e xs)⟩ := by
  cases hq : s.hp id with
  | arr T e xs =>
   rw [hq] at hs
   simp only [Option.some.injEq] at hs
   exact ⟨T, e, xs, .inl rfl, hs.symm⟩
  | iarr T e xs =>
   rw [hq] at hs
   simp only [Option.some.injEq] at hs
   exact ⟨T, e, xs, .inr rfl, hs.symm⟩
  | _ => rw [hq] at hs; cases hs
 ·subst hs
  obtain ⟨st, ρ, φ, h1, h2⟩ := h
  refine ⟨_, _, _, h1.fz hq, h2.os, h2.tape, h2.output, h2.size, h2.keep, fun b hb => .inl (h2.st1 b hb), fun b hb => ?_, fun j b hb => h2.ow j b hb.1, fun j hp hn => h2.pid j hp ?_⟩
  ·rcases hb with hb | hb
   ·exact h2.st2 b hb
   ·exact .inr (h2.ow id b hb)
  ·intro e1
   apply hn
   show (bif Nat.beq j id then Ob.none else (s.hp j).mapA _) = .none
   rw [e1]
   cases Nat.beq j id <;> rfl
theorem Sim.fzi (h : Sim w st ρ φ n a s) (hO : s.hp id = .arr T e xs) :
  Sim w (fun c => st c ∨ (φ id c /\ ¬ ∃ l k, ρ id = .slice (some ⟨c, 0, none⟩) l k)) ρ (fun j c => φ j c /\ (j = id -> ∃ l k, ρ id = .slice (some ⟨c, 0, none⟩) l k)) n a ⟨(s.killN [id]).env, updL (s.killN [id]).hp [(id, .iarr T e xs)]⟩ := by
 have hob := h.ob id
 rw [hO] at hob
 have hs1 := h.killN [id]
 have ho1 : (s.killN [id]).hp id = .arr T e xs := Qlo hO
 refine hs1.upd (by simp) (fun _ h => .inl h) (fun _ _ => rfl) (fun j hj => ?_) (by simp) (fun q hq => ?_) (fun _ => false) (fun q hq hne => ?_) (fun q hq hf => ?_) (fun j c hc => ?_) (fun i j b h1 h2 => h.dj i j b h1.1 h2.1) (fun b hb => ?_) (by simp [Ob.ids])
 ·have hne : j ≠ id := by simpa using hj
  exact ⟨rfl, by funext c; simp [hne], fun _ _ => rfl⟩
 ·simp at hq; subst hq
  rcases hob with ⟨rfl, A, hA⟩ | ⟨b, cap, arr, F', hA, g1, g2, g3, g4, g5, g6, g7, g8⟩
  ·exact .inl ⟨rfl, A, by simpa using hA⟩
  ·have hA : ρ id = .slice (some ⟨b, 0, none⟩) xs.length cap := by simpa using hA
   refine .inr ⟨b, cap, arr, hA, ⟨g1, fun _ => ⟨_, _, hA⟩⟩, g4, g5, g7, fun i x hx => ?_⟩
   obtain ⟨F1, hF1, hr⟩ := Qiq g8 hx
   refine Ow_Im (fun c hc => .inr ⟨g3 c (hF1 c hc), ?_⟩) hr
   rintro ⟨l, k, e1⟩
   rw [hA] at e1
   simp only [Value.slice.injEq, Option.some.injEq, Addr.mk.injEq] at e1
   exact g2 (e1.1.1 ▸ hF1 c hc)
 ·simp at hq; subst hq
  simp only
  rw [ho1]
  exact ⟨rfl, ⟨rfl, rfl, Nat.le_refl _⟩, fun hf => by cases hf⟩
 ·simp at hq; subst hq
  exact Qej (by simp)
 ·refine ⟨(h.lt j c hc.1).1, ?_⟩
  rintro (hs | ⟨hs, hn⟩)
  ·exact (h.lt j c hc.1).2 hs
  ·have := h.dj j id c hc.1 hs
   exact hn (hc.2 this)
 ·rcases hb with hb | hb
  ·exact h.stlt b hb
  ·exact (h.lt id b hb.1).1
theorem Inv.fziId (h : Inv X w0 st0 ρ0 φ0 s0 a w s) (hs : s.fziId id = some s') : Inv X w0 st0 ρ0 φ0 s0 a w s' := by
 unfold St.fziId at hs
 cases hq : s.hp id with
 | arr T e xs =>
  rw [hq] at hs
  simp only [Option.some.injEq] at hs
  subst hs
  obtain ⟨st, ρ, φ, h1, h2⟩ := h
  refine ⟨_, _, _, h1.fzi hq, h2.os, h2.tape, h2.output, h2.size, h2.keep, fun b hb => .inl (h2.st1 b hb), fun b hb => ?_, fun j b hb => h2.ow j b hb.1, fun j hp hn => h2.pid j hp ?_⟩
  ·rcases hb with hb | hb
   ·exact h2.st2 b hb
   ·exact .inr (h2.ow id b hb.1)
  ·by_cases hj : j = id
   ·rw [hj, hq]; simp
   ·have hn : Go.Vm.upd (s.killN [id]).hp id (.iarr T e xs) j ≠ .none := hn
    rw [Qa5 _ _ hj] at hn
    exact Qd2 hn
 | _ => rw [hq] at hs; cases hs
theorem Inv.fziIds : ∀ {l : List Nat} {s s' : St}, Inv X w0 st0 ρ0 φ0 s0 a w s -> s.fziIds l = some s' -> Inv X w0 st0 ρ0 φ0 s0 a w s'
 | [], s, s', h, e => by cases e; exact h
 | id :: l, s, s', h, e => by
  simp only [St.fziIds] at e
  cases h1 : s.fziId id with
  | none => rw [h1] at e; cases e
  | some s1 => rw [h1] at e; exact Inv.fziIds (h.fziId h1) e
theorem Inv.fzIds : ∀ {l : List Nat} {s s' : St}, Inv X w0 st0 ρ0 φ0 s0 a w s -> s.fzIds l = some s' -> Inv X w0 st0 ρ0 φ0 s0 a w s'
 | [], s, s', h, e => by cases e; exact h
 | id :: l, s, s', h, e => by
  simp only [St.fzIds] at e
  cases h1 : s.fzId id with
  | none => rw [h1] at e; cases e
  | some s1 => rw [h1] at e; exact Inv.fzIds (h.fzId h1) e
theorem Inv.fzSlots : ∀ {l : List Nat} {s s' : St}, Inv X w0 st0 ρ0 φ0 s0 a w s -> s.fzSlots l = some s' -> Inv X w0 st0 ρ0 φ0 s0 a w s'
 | [], s, s', h, e => by cases e; exact h
 | t :: l, s, s', h, e => by
  simp only [St.fzSlots] at e
  cases hb : Nat.blt t 100000 <;> rw [hb] at e
  ·simp only [cond_false] at e
   cases h1 : s.fziIds (arrIds s.hp (s.env (t - 100000))) with
   | none => rw [h1] at e; cases e
   | some s1 => rw [h1] at e; exact Inv.fzSlots (h.fziIds h1) e
  ·simp only [cond_true] at e
   cases h1 : s.fzIds (arrIds s.hp (s.env t)) with
   | none => rw [h1] at e; cases e
   | some s1 => rw [h1] at e; exact Inv.fzSlots (h.fzIds h1) e
end
end Go.Vm

set_option linter.unusedVariables false
set_option linter.unusedSimpArgs false
namespace Go.Vm
structure LayK (w : World) (st : Blks) (F : Blks) (l : List (Nat × Ob)) (ρ1 : Nat -> Value) (φ1 : Nat -> Blks) (Kept : (Nat -> Value) -> (Nat -> Ob) -> Prop) : Prop where
 sup : ∀ id b, φ1 id b -> F b /\ id ∈ l.map (·.1)
 dj : ∀ i j b, φ1 i b -> φ1 j b -> i = j
 nn : ∀ q ∈ l, q.2 ≠ .none
 ob : ∀ (ρ : Nat -> Value) (O : Nat -> Ob), (∀ id ∈ l.map (·.1), ρ id = ρ1 id) -> (∀ q ∈ l, O q.1 = q.2) -> Kept ρ O -> ∀ q ∈ l, ObR w st ρ φ1 O q.1 q.2
variable {w : World} {st : Blks} {Kept : (Nat -> Value) -> (Nat -> Ob) -> Prop}
theorem LayK.nil (F : Blks) (ρ1 : Nat -> Value) : LayK w st F [] ρ1 (fun _ _ => False) Kept :=
 ⟨fun _ _ h => h.elim, fun _ _ _ h => h.elim, by simp, by simp⟩
theorem LayK.up {F F' : Blks} {l : List (Nat × Ob)} {ρ1 : Nat -> Value} {φ1 : Nat -> Blks} (h : LayK w st F l ρ1 φ1 Kept) (hF : ∀ b, F b -> F' b) : LayK w st F' l ρ1 φ1 Kept :=
 ⟨fun id b hb => ⟨hF b (h.sup id b hb).1, (h.sup id b hb).2⟩, h.dj, h.nn, h.ob⟩
theorem LayK.both {F F1 F2 : Blks} {l1 l2 : List (Nat × Ob)} {ρ1 ρ2 : Nat -> Value} {φ1 φ2 : Nat -> Blks} (h1 : LayK w st F1 l1 ρ1 φ1 Kept) (h2 : LayK w st F2 l2 ρ2 φ2 Kept) (hdis : ∀ b, F1 b -> F2 b -> False)
  (hF1 : ∀ b, F1 b -> F b) (hF2 : ∀ b, F2 b -> F b) (hk : ∀ id, id ∈ l1.map (·.1) -> id ∉ l2.map (·.1)) :
  LayK w st F (l1 ++ l2) (fun id => bif mem id (l1.map (·.1)) then ρ1 id else ρ2 id) (fun id b => φ1 id b ∨ φ2 id b) Kept := by
 have hr1 : ∀ id, id ∈ l1.map (·.1) -> (bif mem id (l1.map (·.1)) then ρ1 id else ρ2 id) = ρ1 id := fun id hid => by rw [Qav.2 hid]; rfl
 have hr2 : ∀ id, id ∈ l2.map (·.1) -> (bif mem id (l1.map (·.1)) then ρ1 id else ρ2 id) = ρ2 id := fun id hid => by
  rw [Qaq.2 (fun h => hk id h hid)]; rfl
 refine ⟨fun id b hb => ?_, fun i j b hi hj => ?_, fun q hq => ?_, fun ρ O e1 e2 e3 q hq => ?_⟩
 ·rw [List.map_append, List.mem_append]
  rcases hb with hb | hb
  ·exact ⟨hF1 b (h1.sup id b hb).1, .inl (h1.sup id b hb).2⟩
  ·exact ⟨hF2 b (h2.sup id b hb).1, .inr (h2.sup id b hb).2⟩
 ·rcases hi with hi | hi <;> rcases hj with hj | hj
  ·exact h1.dj i j b hi hj
  ·exact (hdis b (h1.sup i b hi).1 (h2.sup j b hj).1).elim
  ·exact (hdis b (h1.sup j b hj).1 (h2.sup i b hi).1).elim
  ·exact h2.dj i j b hi hj
 ·rcases List.mem_append.1 hq with hq | hq
  ·exact h1.nn q hq
  ·exact h2.nn q hq
 ·have hm : ∀ q ∈ l1, q.1 ∈ l1.map (·.1) := fun q hq => List.mem_map.2 ⟨q, hq, rfl⟩
  have hm2 : ∀ q ∈ l2, q.1 ∈ l2.map (·.1) := fun q hq => List.mem_map.2 ⟨q, hq, rfl⟩
  rcases List.mem_append.1 hq with hq | hq
  ·refine Qdw (h1.ob ρ O (fun id hid => ?_) (fun q hq => e2 q (by simp [hq])) e3 q hq) (fun b => ⟨fun hb => ?_, .inl⟩)
   ·rw [e1 id (by rw [List.map_append]; simp only [List.mem_append]; exact .inl hid), hr1 id hid]
   ·rcases hb with hb | hb
    ·exact hb
    ·exact (hk q.1 (hm q hq) (h2.sup _ b hb).2).elim
  ·refine Qdw (h2.ob ρ O (fun id hid => ?_) (fun q hq => e2 q (by simp [hq])) e3 q hq) (fun b => ⟨fun hb => ?_, .inr⟩)
   ·rw [e1 id (by rw [List.map_append]; simp only [List.mem_append]; exact .inr hid), hr2 id hid]
   ·rcases hb with hb | hb
    ·exact (hk q.1 (h1.sup _ b hb).2 (hm2 q hq)).elim
    ·exact hb
theorem Compat.le {w w' : World} {O O' : Ob} {r r' : Value} (h : Compat w w' O O' r r' true) (n : Bool) : Compat w w' O O' r r' n := ⟨h.1, h.2.1, fun _ => h.2.2 rfl⟩
theorem Compat.live {w w' : World} {O O' : Ob} {r r' : Value} {n : Bool} (h : Compat w w' O O' r r' n) : O ≠ .none := by
 intro e; rw [e] at h; have := h.2.1; cases O' <;> exact this
section
variable {X : Ctx} {ρ : Nat -> Value} {φ : Nat -> Blks} {n : Nat} {a : Act} {s : St} {st' : Blks} {kp : List Nat}
def KeptR (w : World) (s : St) (ρ : Nat -> Value) (kp : List Nat) (ρ' : Nat -> Value) (O' : Nat -> Ob) : Prop := ∀ id ∈ kp, Compat w w (s.hp id) (O' id) (ρ id) (ρ' id) true
theorem Qd5 (a b : AV) : (mkPair a b).agg = true /\ (mkPair a b).isTup = false := by cases a <;> cases b <;> exact ⟨rfl, rfl⟩
theorem Qg7 (h : Sim w st ρ φ n a s) (hst : ∀ b, st b -> st' b) (O' : Nat -> Ob) (ρ' : Nat -> Value) : ∀ {v u : AV} {l : List Nat} {cs : List Value}, immAV s.hp v = some (u, l) -> RC w st ρ s.hp v cs -> (∀ id ∈ l, ∀ b, φ id b -> st' b) ->
  RC w st' ρ' O' u cs /\ (∀ S, Fit s.hp S v -> Fit O' S u) /\ u.agg = v.agg /\ u.isTup = false /\ v.isTup = false /\ v ≠ .unk /\ (∀ id ∈ l, ∃ T e xs, s.hp id = .arr T e xs) := by
 intro v
 induction v with
 | val t x =>
  intro u l cs hi hr hl
  cases hi
  exact ⟨Im_up hst hr, fun S hf => by cases S <;> exact hf, rfl, rfl, rfl, by simp, by simp⟩
 | nilv T e =>
  intro u l cs hi hr hl
  cases hi
  obtain ⟨A, rfl⟩ := hr
  refine ⟨⟨A, 0, rfl, Nat.le_refl _, fun h => absurd rfl h⟩, fun S hf => ?_, rfl, rfl, rfl, by simp, by simp⟩
  cases S with
  | sl T' e' => obtain ⟨rfl, rfl⟩ := hf; exact rfl
  | _ => exact hf.elim
 | sref id ix p =>
  intro u l cs hi hr hl
  cases ix with
  | some i =>
   simp only [immAV] at hi
   cases hq : s.hp id with
   | arr T e xs =>
    rw [hq] at hi; simp only at hi
    split at hi
    ·rename_i T' e' y hg
     cases hi
     have hob := h.ob id
     rw [hq] at hob
     have him : Im w st' (.sl T e) xs [ρ id] := Ow_Im (fun b hb => hl id (by simp) b hb) hob
     have hfz := RC_fz (v := .sref id (some i) p) (.inl hq) hst him hr
     have hv : (AV.sref id (some i) p).fz id T e xs = .val (.sl T' e') y := by
      simp only [AV.fz]
      rw [show Nat.beq id id = true from Nat.beq_refl id]
      simp only [cond_true, hg]
     rw [hv] at hfz
     refine ⟨hfz, fun S hf => ?_, rfl, rfl, rfl, by simp, fun j hj => by simp at hj; subst hj; exact ⟨_, _, _, hq⟩⟩
     cases S with
     | sl T'' e'' =>
      obtain ⟨ys, hh, _⟩ := hf
      cases hh
     | _ => exact hf.elim
    ·cases hi
   | _ => rw [hq] at hi; cases hi
  | none =>
   cases p with
   | cons _ _ => simp [immAV] at hi
   | nil =>
    simp only [immAV] at hi
    cases hq : s.hp id with
    | arr T e xs =>
     rw [hq] at hi; cases hi
     obtain ⟨_, _, rfl, _⟩ := hr
     have hob := h.ob id
     rw [hq] at hob
     refine ⟨Ow_Im (fun b hb => hl id (by simp) b hb) hob, fun S hf => ?_, rfl, rfl, rfl, by simp, fun j hj => by simp at hj; subst hj; exact ⟨_, _, _, hq⟩⟩
     cases S with
     | sl T' e' =>
      obtain ⟨ys, _, _, hk⟩ := hf
      cases hk.of_arr hq; exact rfl
     | _ => exact hf.elim
    | _ => rw [hq] at hi; cases hi
 | pair p q ihp ihq =>
  intro u l cs hi hr hl
  simp only [immAV] at hi
  cases h1 : immAV s.hp p with
  | none => rw [h1] at hi; simp at hi
  | some r1 =>
   obtain ⟨u1, l1⟩ := r1
   cases h2 : immAV s.hp q with
   | none => rw [h1, h2] at hi; simp at hi
   | some r2 =>
    obtain ⟨u2, l2⟩ := r2
    rw [h1, h2] at hi
    simp only [Option.some.injEq, Prod.mk.injEq] at hi
    obtain ⟨rfl, rfl⟩ := hi
    obtain ⟨c1, c2, rfl, g1, g2⟩ := hr
    obtain ⟨a1, a2, a3, a4, a5, a6, a7⟩ := ihp h1 g1 (fun id hid => hl id (by simp [hid]))
    obtain ⟨b1, b2, b3, b4, b5, b6, b7⟩ := ihq h2 g2 (fun id hid => hl id (by simp [hid]))
    refine ⟨Qb7 a1 b1, fun S hf => ?_, (Qd5 _ _).1, (Qd5 _ _).2, rfl, by simp, fun j hj => ?_⟩
    ·cases S with
     | pair S1 S2 => exact Qb5 (a2 _ hf.1) (b2 _ hf.2)
     | _ => exact hf.elim
    ·rcases List.mem_append.1 hj with hj | hj
     ·exact a7 j hj
     ·exact b7 j hj
 | _ => intro u l cs hi; cases hi
theorem Qpr {v u1 u2 : AV} {O : Nat -> Ob} {cs : List Value} (h1 : getA v [false] = some u1) (h2 : getA v [true] = some u2) (hr : RC w st ρ O v cs) :
  v.agg = true /\ ∃ c1 c2, cs = c1 ++ c2 /\ RC w st ρ O u1 c1 /\ RC w st ρ O u2 c2 /\ ∀ S, Fit O S v -> ∃ S1 S2, S = .pair S1 S2 /\ Fit O S1 u1 /\ Fit O S2 u2 := by
 cases v with
 | val t x =>
  cases t with
  | pair p q =>
   simp only [getA, Option.some.injEq] at h1 h2
   subst h1 h2
   obtain ⟨c1, c2, e, g1, g2⟩ := hr
   exact ⟨rfl, c1, c2, e, g1, g2, fun S hf => by have := Qbb.1 hf; subst this; exact ⟨p, q, rfl, Qbb.2 rfl, Qbb.2 rfl⟩⟩
  | _ => simp [getA] at h1
 | pair p q =>
  simp only [getA, Option.some.injEq] at h1 h2
  subst h1 h2
  obtain ⟨c1, c2, e, g1, g2⟩ := hr
  refine ⟨rfl, c1, c2, e, g1, g2, fun S hf => ?_⟩
  cases S with
  | pair S1 S2 => exact ⟨S1, S2, rfl, hf.1, hf.2⟩
  | _ => exact hf.elim
 | _ => simp [getA] at h1
theorem Qfs (h : Sim w st ρ φ n a s) (hst : ∀ b, st b -> st' b) : ∀ {kd : Kd} {v : AV} {k : Nat} {c : Canon} {cs : List Value}, canonAV s.hp kd v k = some c -> (c.up.map (·.1)).Nodup -> c.mv.Nodup -> (∀ id ∈ c.as, id ∈ kp) -> (∀ id ∈ c.fr, ∀ b, φ id b -> st' b) ->
  RC w st ρ s.hp v cs -> c.v.agg = v.agg /\ (kd ≠ .asis -> v ≠ .unk) /\ (∀ id ∈ c.mv ++ c.fr, ∃ T e xs, s.hp id = .arr T e xs) /\
   ∃ ρ1 φ1, LayK w st' (fun b => ∃ id ∈ c.mv, φ id b) c.up ρ1 φ1 (KeptR w s ρ kp) /\
    ∀ (ρ' : Nat -> Value) (O' : Nat -> Ob), (∀ id ∈ c.up.map (·.1), ρ' id = ρ1 id) -> (∀ q ∈ c.up, O' q.1 = q.2) -> KeptR w s ρ kp ρ' O' -> RC w st' ρ' O' c.v cs /\ ∀ S, Fit s.hp S v -> Fit O' S c.v
 | .asis, v, k, c, cs, hc, hn, hm, has, hfr, hr => by
  cases hc
  refine ⟨rfl, fun h => absurd rfl h, by simp, fun _ => undef, _, LayK.nil _ _, fun ρ' O' _ _ hk => ⟨Qb6 hst (fun _ _ => rfl) (fun id hid => (hk id (has id hid)).le _) hr, fun S hf => Qcg (fun id hid T e xs he => ?_) hf⟩⟩
  obtain ⟨xs', h9, _⟩ := Compat.arr (hk id (has id hid)) he
  exact ⟨xs', h9⟩
 | .own, v, k, c, cs, hc, hn, hm, has, hfr, hr => by
  cases v with
  | nilv T e =>
   cases hc
   obtain ⟨A, rfl⟩ := hr
   refine ⟨rfl, fun _ => by simp, by simp, fun _ => .slice A 0 0, fun _ _ => False, ⟨fun _ _ h => h.elim, fun _ _ _ h => h.elim, by simp, fun ρ' O' h1 h2 _ q hq => ?_⟩, fun ρ' O' h1 h2 _ => ⟨?_, fun S hf => ?_⟩⟩
   ·simp at hq; subst hq
    show Ow w (.sl T e) [] [ρ' k] _
    rw [h1 k (by simp)]
    exact .inl ⟨rfl, A, rfl⟩
   ·have hO := h2 (k, .arr T e []) (by simp)
    exact ⟨rfl, ⟨_, _, _, .inl hO⟩, by rw [h1 k (by simp)], by rw [h1 k (by simp)]; rfl⟩
   ·cases S with
    | sl T' e' =>
     obtain ⟨rfl, rfl⟩ := hf
     exact ⟨[], rfl, rfl, .inl (h2 (k, .arr T e []) (by simp))⟩
    | _ => exact hf.elim
  | sref id ix p =>
   cases ix with
   | some _ => simp [canonAV] at hc
   | none =>
    cases p with
    | cons _ _ => simp [canonAV] at hc
    | nil =>
     simp only [canonAV] at hc
     cases hq : s.hp id with
     | arr T e xs =>
      rw [hq] at hc; cases hc
      obtain ⟨_, _, rfl, hone⟩ := hr
      have hob := h.ob id
      rw [hq] at hob
      refine ⟨rfl, fun _ => by simp, fun j hj => by simp at hj; subst hj; exact ⟨_, _, _, hq⟩, fun _ => ρ id, fun j b => j = k /\ φ id b, ⟨?_, ?_, by simp, fun ρ' O' h1 h2 _ q hq => ?_⟩, fun ρ' O' h1 h2 _ => ⟨?_, fun S hf => ?_⟩⟩
      ·rintro j b ⟨rfl, hb⟩; exact ⟨⟨id, by simp, hb⟩, by simp⟩
      ·rintro i j b ⟨rfl, _⟩ ⟨rfl, _⟩; rfl
      ·simp at hq; subst hq
       show Ow w (.sl T e) xs [ρ' k] _
       rw [h1 k (by simp)]
       exact Ow_up (fun b hb => ⟨rfl, hb⟩) hob
      ·exact ⟨rfl, ⟨_, _, _, .inl (h2 (k, .arr T e xs) (by simp))⟩, by rw [h1 k (by simp)], by rw [h1 k (by simp)]; exact hone⟩
      ·cases S with
       | sl T' e' =>
        obtain ⟨ys, _, _, hk⟩ := hf
        cases hk.of_arr hq
        exact ⟨xs, rfl, rfl, .inl (h2 (k, .arr T e xs) (by simp))⟩
       | _ => exact hf.elim
     | _ => rw [hq] at hc; cases hc
  | _ => simp [canonAV] at hc
 | .imm, v, k, c, cs, hc, hn, hm, has, hfr, hr => by
  simp only [canonAV] at hc
  cases hi : immAV s.hp v with
  | none => rw [hi] at hc; cases hc
  | some p =>
   obtain ⟨u, l⟩ := p
   rw [hi] at hc; cases hc
   obtain ⟨g1, g2, g3, g4, g5, g6, g7⟩ := Qg7 h hst s.hp ρ hi hr hfr
   refine ⟨g3, fun _ => g6, by simpa using g7, fun _ => undef, _, LayK.nil _ _, fun ρ' O' _ _ _ => ?_⟩
   obtain ⟨q1, q2, _⟩ := Qg7 h hst O' ρ' hi hr hfr
   exact ⟨q1, q2⟩
 | .pair ka kb, v, k, c, cs, hc, hn, hm, has, hfr, hr => by
  simp only [canonAV] at hc
  cases h1 : getA v [false] with
  | none => rw [h1] at hc; simp at hc
  | some u1 =>
   cases h2 : getA v [true] with
   | none => rw [h1, h2] at hc; simp at hc
   | some u2 =>
    rw [h1, h2] at hc; simp only at hc
    cases hx : canonAV s.hp ka u1 k with
    | none => rw [hx] at hc; cases hc
    | some x =>
     rw [hx] at hc; simp only at hc
     cases hy : canonAV s.hp kb u2 x.k with
     | none => rw [hy] at hc; cases hc
     | some y =>
      rw [hy] at hc; cases hc
      obtain ⟨hagg, c1, c2, rfl, r1, r2, hfit⟩ := Qpr h1 h2 hr
      simp only [List.map_append] at hn
      have hn' := List.nodup_append.1 hn
      have hm' := List.nodup_append.1 hm
      have hk : ∀ id, id ∈ x.up.map (·.1) -> id ∉ y.up.map (·.1) := fun id h1 h2 => hn'.2.2 id h1 id h2 rfl
      obtain ⟨x1, x2, x3, ρ1, φ1, x4, x5⟩ := Qfs h hst hx hn'.1 hm'.1 (fun id hid => has id (by simp [hid])) (fun id hid => hfr id (by simp [hid])) r1
      obtain ⟨y1, y2, y3, ρ2, φ2, y4, y5⟩ := Qfs h hst hy hn'.2.1 hm'.2.1 (fun id hid => has id (by simp [hid])) (fun id hid => hfr id (by simp [hid])) r2
      refine ⟨by rw [hagg]; exact (Qd5 _ _).1, fun _ e => (by rw [e] at hagg; cases hagg), fun id hid => ?_, _, _, LayK.both x4 y4 ?_ ?_ ?_ hk, fun ρ' O' g1 g2 g3 => ?_⟩
      ·simp only [List.mem_append] at hid
       rcases hid with (hid | hid) | (hid | hid)
       ·exact x3 id (by simp [hid])
       ·exact y3 id (by simp [hid])
       ·exact x3 id (by simp [hid])
       ·exact y3 id (by simp [hid])
      ·rintro b ⟨i, hi, hib⟩ ⟨j, hj, hjb⟩
       have := h.dj i j b hib hjb; subst this
       exact hm'.2.2 i hi i hj rfl
      ·rintro b ⟨i, hi, hib⟩; exact ⟨i, by simp [hi], hib⟩
      ·rintro b ⟨i, hi, hib⟩; exact ⟨i, by simp [hi], hib⟩
      ·have w1 := x5 ρ' O' (fun id hid => by rw [g1 id (by rw [List.map_append, List.mem_append]; exact .inl hid), Qav.2 hid]; rfl) (fun q hq => g2 q (by simp [hq])) g3
       have w2 := y5 ρ' O' (fun id hid => by rw [g1 id (by rw [List.map_append, List.mem_append]; exact .inr hid), Qaq.2 (fun h => hk id h hid)]; rfl) (fun q hq => g2 q (by simp [hq])) g3
       refine ⟨Qb7 w1.1 w2.1, fun S hf => ?_⟩
       obtain ⟨S1, S2, rfl, f1, f2⟩ := hfit S hf
       exact Qb5 (w1.2 _ f1) (w2.2 _ f2)
theorem Qrc {kd : Kd} {v : AV} {k : Nat} {c : Canon} (hc : canonAV s.hp kd v k = some c) (hk : kd ≠ .asis) : v.isTup = false /\ c.v.isTup = false /\ v ≠ .unk := by
 cases kd with
 | asis => exact absurd rfl hk
 | own =>
  cases v with
  | nilv T e => cases hc; exact ⟨rfl, rfl, by simp⟩
  | sref id ix p =>
   cases ix with
   | some _ => simp [canonAV] at hc
   | none =>
    cases p with
    | cons _ _ => simp [canonAV] at hc
    | nil =>
     simp only [canonAV] at hc
     cases hq : s.hp id with
     | arr T e xs => rw [hq] at hc; cases hc; exact ⟨rfl, rfl, by simp⟩
     | _ => rw [hq] at hc; cases hc
  | _ => simp [canonAV] at hc
 | imm =>
  simp only [canonAV] at hc
  cases hi : immAV s.hp v with
  | none => rw [hi] at hc; cases hc
  | some p =>
   obtain ⟨u, l⟩ := p
   rw [hi] at hc; cases hc
   cases v with
   | val t x => cases hi; exact ⟨rfl, rfl, by simp⟩
   | nilv T e => cases hi; exact ⟨rfl, rfl, by simp⟩
   | sref id ix p =>
    cases ix with
    | some i =>
     simp only [immAV] at hi
     cases hq : s.hp id with
     | arr T e xs =>
      rw [hq] at hi; simp only at hi
      split at hi
      ·cases hi; exact ⟨rfl, rfl, by simp⟩
      ·cases hi
     | _ => rw [hq] at hi; cases hi
    | none =>
     cases p with
     | cons _ _ => simp [immAV] at hi
     | nil =>
      simp only [immAV] at hi
      cases hq : s.hp id with
      | arr T e xs => rw [hq] at hi; cases hi; exact ⟨rfl, rfl, by simp⟩
      | _ => rw [hq] at hi; cases hi
   | pair p q =>
    simp only [immAV] at hi
    cases h1 : immAV s.hp p with
    | none => rw [h1] at hi; simp at hi
    | some r1 =>
     cases h2 : immAV s.hp q with
     | none => rw [h1, h2] at hi; simp at hi
     | some r2 =>
      rw [h1, h2] at hi
      simp only [Option.some.injEq, Prod.mk.injEq] at hi
      obtain ⟨rfl, _⟩ := hi
      exact ⟨rfl, (Qd5 _ _).2, by simp⟩
   | _ => cases hi
 | pair ka kb =>
  simp only [canonAV] at hc
  cases h1 : getA v [false] with
  | none => rw [h1] at hc; simp at hc
  | some u1 =>
   cases h2 : getA v [true] with
   | none => rw [h1, h2] at hc; simp at hc
   | some u2 =>
    rw [h1, h2] at hc; simp only at hc
    cases hx : canonAV s.hp ka u1 k with
    | none => rw [hx] at hc; cases hc
    | some x =>
     rw [hx] at hc; simp only at hc
     cases hy : canonAV s.hp kb u2 x.k with
     | none => rw [hy] at hc; cases hc
     | some y =>
      rw [hy] at hc; cases hc
      refine ⟨?_, (Qd5 _ _).2, ?_⟩
      ·cases v with
       | val t x => rfl
       | pair p q => rfl
       | _ => simp [getA] at h1
      ·rintro rfl; simp [getA] at h1
theorem Qsy (h : Sim w st ρ φ n a s) (hst : ∀ b, st b -> st' b) {kd : Kd} {v : AV} {k : Nat} {c : Canon} {x : Value} (hc : canonAV s.hp kd v k = some c) (hn : (c.up.map (·.1)).Nodup) (hm : c.mv.Nodup) (has : ∀ id ∈ c.as, id ∈ kp) (hfr : ∀ id ∈ c.fr, ∀ b, φ id b -> st' b)
  (hr : RV w st ρ s.hp v x) : (∀ id ∈ c.mv ++ c.fr, ∃ T e xs, s.hp id = .arr T e xs) /\
   ∃ ρ1 φ1, LayK w st' (fun b => ∃ id ∈ c.mv, φ id b) c.up ρ1 φ1 (KeptR w s ρ kp) /\
    ∀ (ρ' : Nat -> Value) (O' : Nat -> Ob), (∀ id ∈ c.up.map (·.1), ρ' id = ρ1 id) -> (∀ q ∈ c.up, O' q.1 = q.2) -> KeptR w s ρ kp ρ' O' -> RV w st' ρ' O' c.v x := by
 by_cases hk : kd = .asis
 ·subst hk
  cases hc
  exact ⟨by simp, fun _ => undef, _, LayK.nil _ _, fun ρ' O' _ _ hk => Qf2 hst (fun _ _ => rfl) (fun id hid => (hk id (has id hid)).le _) hr⟩
 ·obtain ⟨t1, t2, t3⟩ := Qrc hc hk
  rcases hr with ⟨hh, _⟩ | ⟨_, hr⟩
  ·rw [t1] at hh; cases hh
  rcases hr with rfl | ⟨ha, cs, rfl, hr⟩ | ⟨ha, hr⟩
  ·exact absurd rfl t3
  ·obtain ⟨g1, _, g3, ρ1, φ1, g4, g5⟩ := Qfs h hst hc hn hm has hfr hr
   exact ⟨g3, ρ1, φ1, g4, fun ρ' O' q1 q2 q3 => .inr ⟨t2, .inr (.inl ⟨by rw [g1]; exact ha, cs, rfl, (g5 ρ' O' q1 q2 q3).1⟩)⟩⟩
  ·obtain ⟨g1, _, g3, ρ1, φ1, g4, g5⟩ := Qfs h hst hc hn hm has hfr hr
   exact ⟨g3, ρ1, φ1, g4, fun ρ' O' q1 q2 q3 => .inr ⟨t2, .inr (.inr ⟨by rw [g1]; exact ha, (g5 ρ' O' q1 q2 q3).1⟩)⟩⟩
theorem Qm8 (h : Sim w st ρ φ n a s) (hst : ∀ b, st b -> st' b) : ∀ {l : List (Nat × Kd)} {m : Mask}, maskSlots s l = some m -> (m.up.map (·.1)).Nodup -> m.mv.Nodup -> (∀ id ∈ m.as, id ∈ kp) -> (∀ id ∈ m.fr, ∀ b, φ id b -> st' b) ->
  (∀ id ∈ m.mv ++ m.fr, ∃ T e xs, s.hp id = .arr T e xs) /\
   ∃ ρ1 φ1, LayK w st' (fun b => ∃ id ∈ m.mv, φ id b) m.up ρ1 φ1 (KeptR w s ρ kp) /\
    ∀ (ρ' : Nat -> Value) (O' : Nat -> Ob), (∀ id ∈ m.up.map (·.1), ρ' id = ρ1 id) -> (∀ q ∈ m.up, O' q.1 = q.2) -> KeptR w s ρ kp ρ' O' -> ∀ q ∈ m.env, RV w st' ρ' O' q.2 (a.tmps.getD q.1 undef)
 | [], m, hm, _, _, _, _ => by
  cases hm
  exact ⟨by simp, fun _ => undef, _, LayK.nil _ _, by simp⟩
 | (t, kd) :: l, m, hm, hn, hmv, has, hfr => by
  simp only [maskSlots] at hm
  cases hc : canonAV s.hp kd (s.env t) (seedOf t) with
  | none => rw [hc] at hm; simp at hm
  | some c =>
   cases hr : maskSlots s l with
   | none => rw [hc, hr] at hm; simp at hm
   | some m' =>
    rw [hc, hr] at hm; cases hm
    simp only [List.map_append] at hn
    have hn' := List.nodup_append.1 hn
    have hm' := List.nodup_append.1 hmv
    have hk : ∀ id, id ∈ c.up.map (·.1) -> id ∉ m'.up.map (·.1) := fun id h1 h2 => hn'.2.2 id h1 id h2 rfl
    obtain ⟨x3, ρ1, φ1, x4, x5⟩ := Qsy h hst hc hn'.1 hm'.1 (fun id hid => has id (by simp [hid])) (fun id hid => hfr id (by simp [hid])) (h.env t)
    obtain ⟨y3, ρ2, φ2, y4, y5⟩ := Qm8 h hst hr hn'.2.1 hm'.2.1 (fun id hid => has id (by simp [hid])) (fun id hid => hfr id (by simp [hid]))
    refine ⟨fun id hid => ?_, _, _, LayK.both x4 y4 ?_ ?_ ?_ hk, fun ρ' O' g1 g2 g3 q hq => ?_⟩
    ·simp only [List.mem_append] at hid
     rcases hid with (hid | hid) | (hid | hid)
     ·exact x3 id (by simp [hid])
     ·exact y3 id (by simp [hid])
     ·exact x3 id (by simp [hid])
     ·exact y3 id (by simp [hid])
    ·rintro b ⟨i, hi, hib⟩ ⟨j, hj, hjb⟩
     have := h.dj i j b hib hjb; subst this
     exact hm'.2.2 i hi i hj rfl
    ·rintro b ⟨i, hi, hib⟩; exact ⟨i, by simp [hi], hib⟩
    ·rintro b ⟨i, hi, hib⟩; exact ⟨i, by simp [hi], hib⟩
    ·rcases List.mem_cons.1 hq with rfl | hq
     ·exact x5 ρ' O' (fun id hid => by rw [g1 id (by rw [List.map_append, List.mem_append]; exact .inl hid), Qav.2 hid]; rfl) (fun q hq => g2 q (by simp [hq])) g3
     ·exact y5 ρ' O' (fun id hid => by rw [g1 id (by rw [List.map_append, List.mem_append]; exact .inr hid), Qaq.2 (fun h => hk id h hid)]; rfl) (fun q hq => g2 q (by simp [hq])) g3 q hq
theorem Qjs (h : Sim w st ρ φ n a s) (hst : ∀ b, st b -> st' b) : ∀ {l : List (Nat × Kd)} {m : Mask}, maskBoxes s l = some m -> (m.up.map (·.1)).Nodup -> m.mv.Nodup -> (∀ id ∈ m.as, id ∈ kp) -> (∀ id ∈ m.fr, ∀ b, φ id b -> st' b) ->
  (∀ id ∈ m.mv ++ m.fr, ∃ T e xs, s.hp id = .arr T e xs) /\ (∀ id ∈ l.map (·.1), ((∃ S v, s.hp id = .box S v) ∨ ∃ S x, s.hp id = .cbox S x) /\ ∃ o, (id, o) ∈ m.up /\ Compat w w (s.hp id) o (ρ id) (ρ id) true) /\
   ∃ ρ1 φ1, LayK w st' (fun b => (∃ id ∈ l.map (·.1), φ id b) ∨ ∃ id ∈ m.mv, φ id b) m.up ρ1 φ1 (KeptR w s ρ kp) /\ ∀ id ∈ l.map (·.1), ρ1 id = ρ id
 | [], m, hm, _, _, _, _ => by
  cases hm
  exact ⟨by simp, by simp, fun _ => undef, _, LayK.nil _ _, by simp⟩
 | (id, kd) :: l, m, hm, hn, hmv, has, hfr => by
  simp only [maskBoxes] at hm
  cases hq : s.hp id with
  | none => rw [hq] at hm; simp at hm
  | arr _ _ _ => rw [hq] at hm; simp at hm
  | iarr _ _ _ => rw [hq] at hm; simp at hm
  | cbox S x =>
   rw [hq] at hm
   cases hr : maskBoxes s l with
   | none => rw [hr] at hm; simp at hm
   | some m' =>
    rw [hr] at hm; cases hm
    simp only [List.map_cons, List.nodup_cons] at hn
    obtain ⟨y3, y6, ρ2, φ2, y4, y5⟩ := Qjs h hst hr hn.2 hmv has hfr
    have hob := h.ob id
    rw [hq] at hob
    obtain ⟨b, arr, T, fz, g1, g2, g3, g4, g5⟩ := hob
    have hx : LayK w st' (fun _ => False) [(id, .cbox S x)] ρ (fun _ _ => False) (KeptR w s ρ kp) := by
     refine ⟨fun _ _ h => h.elim, fun _ _ _ h => h.elim, by simp, fun ρ' O' q1 q2 _ q hqm => ?_⟩
     simp at hqm; subst hqm
     exact ⟨b, arr, T, fz, by rw [q1 id (by simp)]; exact g1, hst b g2, g3, Im_up hst g4, fun _ h => h⟩
    have hk : ∀ j, j ∈ ([(id, Ob.cbox S x)] : List (Nat × Ob)).map (·.1) -> j ∉ m'.up.map (·.1) := fun j hj hj' => by
     simp at hj; subst hj; exact hn.1 hj'
    refine ⟨y3, fun j hj => ?_, _, _, LayK.both (F := fun b => (∃ j ∈ ((id, kd) :: l).map (·.1), φ j b) ∨ ∃ j ∈ m'.mv, φ j b) hx y4 (fun _ h => h.elim) (fun _ h => h.elim) ?_ hk, fun j hj => ?_⟩
    ·simp only [List.map_cons, List.mem_cons] at hj
     rcases hj with rfl | hj
     ·refine ⟨.inr ⟨S, x, hq⟩, _, List.mem_cons_self, ?_⟩
      rw [hq]
      refine ⟨rfl, rfl, fun _ i p b o hp _ => ?_⟩
      obtain ⟨_, _, _, _, _, _, h4, _⟩ := hp
      exact h4.not_cbox.elim
     ·obtain ⟨q0, o, q1, q2⟩ := y6 j hj
      exact ⟨q0, o, by simp [q1], q2⟩
    ·rintro b (⟨j, hj, hb⟩ | hb)
     ·exact .inl ⟨j, by simp only [List.map_cons, List.mem_cons]; exact .inr hj, hb⟩
     ·exact .inr hb
    ·simp only [List.map_cons, List.mem_cons] at hj
     show (bif mem j [id] then ρ j else ρ2 j) = ρ j
     by_cases hji : j = id
     ·subst hji; rw [Qav.2 (by simp)]; rfl
     ·rw [Qaq.2 (by simpa using hji)]
      exact y5 j (hj.resolve_left hji)
  | box S v =>
   rw [hq] at hm
   cases hr : maskBoxes s l with
   | none => rw [hr] at hm; simp at hm
   | some m' =>
    rw [hr] at hm; simp only at hm
    cases hc : canonAV s.hp kd v (seedOf id) with
    | none => rw [hc] at hm; cases hm
    | some c =>
     rw [hc] at hm; cases hm
     simp only [List.cons_append, List.map_cons, List.map_append, List.nodup_cons, List.mem_append, not_or] at hn
     have hn' := List.nodup_append.1 hn.2
     have hm' := List.nodup_append.1 hmv
     obtain ⟨y3, y6, ρ2, φ2, y4, y5⟩ := Qjs h hst hr hn'.2.1 hm'.2.1 (fun id hid => has id (by simp [hid])) (fun id hid => hfr id (by simp [hid]))
     have hob := h.ob id
     rw [hq] at hob
     obtain ⟨b, arr, T, g1, g2, g3, g4, g5⟩ := hob
     obtain ⟨x1, x2, x3, ρ1, φ1, x4, x5⟩ := Qfs h hst hc hn'.1 hm'.1 (fun id hid => has id (by simp [hid])) (fun id hid => hfr id (by simp [hid])) g5
     have hidarr : ∀ j ∈ c.mv, j ≠ id := fun j hj e => by
      obtain ⟨_, _, _, hh⟩ := x3 j (by simp [hj])
      rw [e, hq] at hh; cases hh
     have hx : LayK w st' (fun b' => φ id b' ∨ ∃ j ∈ c.mv, φ j b') ((id, .box S c.v) :: c.up) (Go.Vm.upd ρ1 id (ρ id)) (fun j b' => if j = id then φ id b' else φ1 j b') (KeptR w s ρ kp) := by
      refine ⟨fun j b' hb => ?_, fun i j b' h1 h2 => ?_, fun q hqm => ?_, fun ρ' O' q1 q2 q3 q hqm => ?_⟩
      ·by_cases hj : j = id
       ·simp only [hj, if_true] at hb; exact ⟨.inl hb, by simp [hj]⟩
       ·simp only [hj, if_false] at hb
        have := x4.sup j b' hb
        exact ⟨.inr this.1, by simp only [List.map_cons, List.mem_cons]; exact .inr this.2⟩
      ·have key : ∀ j, φ id b' -> φ1 j b' -> False := fun j h1 h2 => by
        obtain ⟨⟨k, hk, hkb⟩, _⟩ := x4.sup j b' h2
        exact hidarr k hk (h.dj k id b' hkb h1)
       by_cases hi : i = id <;> by_cases hj : j = id
       ·rw [hi, hj]
       ·simp only [hi, if_true] at h1; simp only [hj, if_false] at h2
        exact (key j h1 h2).elim
       ·simp only [hj, if_true] at h2; simp only [hi, if_false] at h1
        exact (key i h2 h1).elim
       ·simp only [hi, hj, if_false] at h1 h2
        exact x4.dj i j b' h1 h2
      ·rcases List.mem_cons.1 hqm with rfl | hqm
       ·simp
       ·exact x4.nn q hqm
      ·have ha1 : ∀ j ∈ c.up.map (·.1), ρ' j = ρ1 j := fun j hj => by
        rw [q1 j (by simp only [List.map_cons, List.mem_cons]; exact .inr hj), Qa5 _ _ (fun e : j = id => hn.1.1 (by rw [<- e]; exact hj))]
       have ha2 : ∀ q ∈ c.up, O' q.1 = q.2 := fun q hq => q2 q (by simp [hq])
       rcases List.mem_cons.1 hqm with rfl | hqm
       ·obtain ⟨f1, f2⟩ := x5 ρ' O' ha1 ha2 q3
        refine ⟨b, arr, T, ?_, by simpa using g2, g3, f2 _ g4, f1⟩
        rw [q1 id (by simp), Qa0]; exact g1
       ·refine Qdw (x4.ob ρ' O' ha1 ha2 q3 q hqm) (fun b' => ?_)
        have : q.1 ≠ id := fun e => hn.1.1 (by rw [<- e]; exact List.mem_map.2 ⟨q, hqm, rfl⟩)
        simp [this]
     have hk : ∀ j, j ∈ ((id, Ob.box S c.v) :: c.up).map (·.1) -> j ∉ m'.up.map (·.1) := fun j hj hj' => by
      simp only [List.map_cons, List.mem_cons] at hj
      rcases hj with rfl | hj
      ·exact hn.1.2 hj'
      ·exact hn'.2.2 j hj j hj' rfl
     refine ⟨fun j hj => ?_, fun j hj => ?_, _, _, LayK.both (F := fun b => (∃ j ∈ ((id, kd) :: l).map (·.1), φ j b) ∨ ∃ j ∈ c.mv ++ m'.mv, φ j b) hx y4 ?_ ?_ ?_ hk, fun j hj => ?_⟩
     ·simp only [List.mem_append] at hj
      rcases hj with (hj | hj) | (hj | hj)
      ·exact x3 j (by simp [hj])
      ·exact y3 j (by simp [hj])
      ·exact x3 j (by simp [hj])
      ·exact y3 j (by simp [hj])
     ·simp only [List.map_cons, List.mem_cons] at hj
      rcases hj with rfl | hj
      ·refine ⟨.inl ⟨S, v, hq⟩, .box S c.v, by simp, ?_⟩
       rw [hq]
       refine ⟨rfl, rfl, fun _ i p b o hp _ => ?_⟩
       obtain ⟨_, _, _, _, _, _, h4, _⟩ := hp
       exact h4.not_box.elim
      ·obtain ⟨q0, o, q1, q2⟩ := y6 j hj
       exact ⟨q0, o, by simp [q1], q2⟩
     ·-- apart
      have hidl : id ∉ l.map (·.1) := fun hl => by
       obtain ⟨_, o, q1, _⟩ := y6 id hl
       exact hn.1.2 (List.mem_map.2 ⟨_, q1, rfl⟩)
      rintro b' hb1 hb2
      obtain ⟨i, hi, hib⟩ : ∃ i, (i = id ∨ i ∈ c.mv) /\ φ i b' := by
       rcases hb1 with hb | ⟨j, hj, hb⟩
       ·exact ⟨id, .inl rfl, hb⟩
       ·exact ⟨j, .inr hj, hb⟩
      obtain ⟨j, hj, hjb⟩ : ∃ j, (j ∈ l.map (·.1) ∨ j ∈ m'.mv) /\ φ j b' := by
       rcases hb2 with ⟨j, hj, hb⟩ | ⟨j, hj, hb⟩
       ·exact ⟨j, .inl hj, hb⟩
       ·exact ⟨j, .inr hj, hb⟩
      have := h.dj i j b' hib hjb; subst this
      rcases hi with rfl | hi <;> rcases hj with hj | hj
      ·exact hidl hj
      ·obtain ⟨_, _, _, hh⟩ := y3 i (by simp [hj])
       rw [hq] at hh; cases hh
      ·obtain ⟨_, _, _, hh⟩ := x3 i (by simp [hi])
       rcases (y6 i hj).1 with ⟨_, _, h2⟩ | ⟨_, _, h2⟩ <;> rw [hh] at h2 <;> cases h2
      ·exact hm'.2.2 i hi i hj rfl
     ·rintro b' (hb | ⟨j, hj, hb⟩)
      ·exact .inl ⟨id, by simp, hb⟩
      ·exact .inr ⟨j, by simp [hj], hb⟩
     ·rintro b' (⟨j, hj, hb⟩ | ⟨j, hj, hb⟩)
      ·exact .inl ⟨j, by simp only [List.map_cons, List.mem_cons]; exact .inr hj, hb⟩
      ·exact .inr ⟨j, by simp [hj], hb⟩
     ·simp only [List.map_cons, List.mem_cons] at hj
      by_cases hji : j = id
      ·subst hji
       rw [Qav.2 (by simp)]
       exact Qa0 _ _ _
      ·have hjl := hj.resolve_left hji
       obtain ⟨_, o, q1, _⟩ := y6 j hjl
       have : j ∉ ((id, Ob.box S c.v) :: c.up).map (·.1) := fun hh => hk j hh (List.mem_map.2 ⟨_, q1, rfl⟩)
       rw [Qaq.2 this]
       exact y5 j hjl
theorem Qoz (h : Sim w st ρ φ n a s) (hst : ∀ b, st b -> st' b) : ∀ {l : List Nat} {L : List (Nat × Ob)}, maskArrs s l = some L -> L.map (·.1) = l /\ ∀ q ∈ L, q.2 = s.hp q.1 /\ ∃ T e xs, q.2 = .arr T e xs
 | [], L, hL => by cases hL; exact ⟨rfl, by simp⟩
 | id :: l, L, hL => by
  simp only [maskArrs] at hL
  cases hq : s.hp id with
  | arr T e xs =>
   rw [hq] at hL
   cases hr : maskArrs s l with
   | none => rw [hr] at hL; simp at hL
   | some L' =>
    rw [hr] at hL; cases hL
    obtain ⟨g1, g2⟩ := Qoz h hst hr
    refine ⟨by simp [g1], fun q hqm => ?_⟩
    rcases List.mem_cons.1 hqm with rfl | hqm
    ·exact ⟨hq.symm, _, _, _, rfl⟩
    ·exact g2 q hqm
  | _ => rw [hq] at hL; simp at hL
end
end Go.Vm

set_option linter.unusedVariables false
set_option linter.unusedSimpArgs false
namespace Go.Vm
theorem Qff {α : Type} {t : Nat} : ∀ (l : List (Nat × α)) (f : Nat -> α), updL f l t = f t ∨ ∃ v, (t, v) ∈ l /\ updL f l t = v
 | [], f => .inl rfl
 | x :: l, f => by
  rcases Qff l (Go.Vm.upd f x.1 x.2) with h | ⟨v, h1, h2⟩
  ·by_cases hx : t = x.1
   ·right
    refine ⟨x.2, ?_, ?_⟩
    ·rw [hx]; simp
    ·rw [updL, h, hx, Qa0]
   ·left
    rw [updL, h, Qa5 _ _ hx]
  ·exact .inr ⟨v, by simp [h1], h2⟩
section
variable {X : Ctx} {w : World} {a : Act} {s s' : St} {w0 : World} {st0 : Blks} {ρ0 : Nat -> Value} {φ0 : Nat -> Blks} {s0 : St}
theorem Inv.mask (hI : Inv X w0 st0 ρ0 φ0 s0 a w s) {K : Keep} (hm : mask X K s = some s') : Inv X w0 st0 ρ0 φ0 s0 a w s' := by
 obtain ⟨st, ρ, φ, h, hfr⟩ := hI
 unfold Go.Vm.mask at hm
 cases hS : maskSlots s K.slots with
 | none => rw [hS] at hm; simp at hm
 | some ma =>
 cases hB : maskBoxes s K.boxes with
 | none => rw [hS, hB] at hm; simp at hm
 | some mb =>
 cases hL : maskArrs s K.arrs with
 | none => rw [hS, hB, hL] at hm; simp at hm
 | some L =>
 rw [hS, hB, hL] at hm; simp only at hm
 cases hok : maskOk X K ma mb L <;> rw [hok] at hm
 ·cases hm
 simp only [cond_true, Option.some.injEq] at hm
 unfold maskOk at hok
 simp only [Bool.and_eq_true, Qb1, Qdo, Qmr, List.all_eq_true, Nat.blt_eq, Bool.or_eq_true, Qav] at hok
 obtain ⟨⟨⟨⟨⟨⟨hn, hmv⟩, hfd⟩, henv⟩, hups⟩, hnew⟩, has⟩ := hok
 have hst : ∀ b, st b -> (fun b => st b ∨ ∃ id ∈ ma.fr ++ mb.fr, φ id b) b := fun b hb => .inl hb
 rw [List.map_append, List.map_append] at hn
 have hn1 := List.nodup_append.1 hn
 have hn2 := List.nodup_append.1 hn1.2.1
 have hv1 := List.nodup_append.1 hmv
 have hv2 := List.nodup_append.1 hv1.2.1
 obtain ⟨a1, ρa, φa, a2, a3⟩ := Qm8 (kp := K.arrs ++ K.boxes.map (·.1)) h hst hS hn2.2.1 hv2.2.1 (fun id hid => has id (by simp [hid])) (fun id hid b hb => .inr ⟨id, by simp [hid], hb⟩)
 obtain ⟨b1, b2, ρb, φb, b3, b4⟩ := Qjs (kp := K.arrs ++ K.boxes.map (·.1)) h hst hB hn2.1 hv2.1 (fun id hid => has id (by simp [hid])) (fun id hid b hb => .inr ⟨id, by simp [hid], hb⟩)
 obtain ⟨c1, c2⟩ := Qoz h hst hL
 have hboxkey : ∀ id ∈ K.boxes.map (·.1), id ∈ mb.up.map (·.1) := fun id hid => by
  obtain ⟨_, o, q1, _⟩ := b2 id hid; exact List.mem_map.2 ⟨_, q1, rfl⟩
 have harr : ∀ id ∈ K.arrs, ∃ T e xs, s.hp id = .arr T e xs := fun id hid => by
  rw [<- c1] at hid
  obtain ⟨q, hq, rfl⟩ := List.mem_map.1 hid
  obtain ⟨g1, T, e, xs, g2⟩ := c2 q hq
  exact ⟨T, e, xs, by rw [<- g1, g2]⟩
 have hbx : ∀ id ∈ K.boxes.map (·.1), ∀ T e xs, s.hp id ≠ .arr T e xs := fun id hid T e xs hh => by
  rcases (b2 id hid).1 with ⟨_, _, h2⟩ | ⟨_, _, h2⟩ <;> rw [hh] at h2 <;> cases h2
 -- the layouts
 have hLay : LayK w (fun b => st b ∨ ∃ id ∈ ma.fr ++ mb.fr, φ id b) (fun b => ∃ id ∈ K.arrs, φ id b) L ρ (fun j b => j ∈ K.arrs /\ φ j b) (KeptR w s ρ (K.arrs ++ K.boxes.map (·.1))) := by
  refine ⟨fun id b hb => ⟨⟨id, hb⟩, by rw [c1]; exact hb.1⟩, fun i j b hi hj => h.dj i j b hi.2 hj.2, fun q hq => ?_, fun ρ' O' g1 g2 _ q hq => ?_⟩
  ·obtain ⟨_, T, e, xs, g2⟩ := c2 q hq
   rw [g2]; simp
  ·obtain ⟨q1, T, e, xs, q2⟩ := c2 q hq
   have hqk : q.1 ∈ L.map (·.1) := List.mem_map.2 ⟨q, hq, rfl⟩
   have hob := h.ob q.1
   rw [<- q1, q2] at hob
   rw [q2]
   show Ow w (.sl T e) xs [ρ' q.1] _
   rw [g1 q.1 hqk]
   exact Ow_up (fun b hb => ⟨by rw [<- c1]; exact hqk, hb⟩) hob
 have hk2 : ∀ id, id ∈ mb.up.map (·.1) -> id ∉ ma.up.map (·.1) := fun id h1 h2 => hn2.2.2 id h1 id h2 rfl
 have hlay2 := LayK.both (F := fun b => ∃ id, (id ∈ K.boxes.map (·.1) ∨ id ∈ mb.mv ++ ma.mv) /\ φ id b) b3 a2 (by
   rintro b hb ⟨j, hj, hjb⟩
   rcases hb with ⟨i, hi, hib⟩ | ⟨i, hi, hib⟩
   ·have := h.dj i j b hib hjb; subst this
    obtain ⟨T, e, xs, hh⟩ := a1 i (by simp [hj])
    exact hbx i hi T e xs hh
   ·have := h.dj i j b hib hjb; subst this
    exact hv2.2.2 i hi i hj rfl) (by
   rintro b (⟨i, hi, hib⟩ | ⟨i, hi, hib⟩)
   ·exact ⟨i, .inl hi, hib⟩
   ·exact ⟨i, .inr (by simp [hi]), hib⟩) (by
   rintro b ⟨i, hi, hib⟩
   exact ⟨i, .inr (by simp [hi]), hib⟩) hk2
 have hk1 : ∀ id, id ∈ L.map (·.1) -> id ∉ (mb.up ++ ma.up).map (·.1) := fun id h1 h2 => by
  rw [List.map_append] at h2
  exact hn1.2.2 id h1 id h2 rfl
 have hlay1 := LayK.both (F := fun b => ∃ id, (id ∈ K.arrs ∨ id ∈ K.boxes.map (·.1) ∨ id ∈ mb.mv ++ ma.mv) /\ φ id b) hLay hlay2 (by
   rintro b ⟨i, hi, hib⟩ ⟨j, hj, hjb⟩
   have := h.dj i j b hib hjb; subst this
   rcases hj with hj | hj
   ·obtain ⟨T, e, xs, hh⟩ := harr i hi
    exact hbx i hj T e xs hh
   ·exact hv1.2.2 i hi i hj rfl) (by
   rintro b ⟨i, hi, hib⟩; exact ⟨i, .inl hi, hib⟩) (by
   rintro b ⟨i, hi, hib⟩; exact ⟨i, .inr hi, hib⟩) hk1
 have hnall : ((L ++ (mb.up ++ ma.up)).map (·.1)).Nodup := by rw [List.map_append, List.map_append]; exact hn
 obtain ⟨ρ1, φ1, hlay, hρa, hρb, hρs⟩ : ∃ ρ1 φ1, LayK w (fun b => st b ∨ ∃ id ∈ ma.fr ++ mb.fr, φ id b) (fun b => ∃ id, (id ∈ K.arrs ∨ id ∈ K.boxes.map (·.1) ∨ id ∈ mb.mv ++ ma.mv) /\ φ id b) (L ++ (mb.up ++ ma.up)) ρ1 φ1 (KeptR w s ρ (K.arrs ++ K.boxes.map (·.1))) /\
   (∀ id ∈ K.arrs, ρ1 id = ρ id) /\ (∀ id ∈ K.boxes.map (·.1), ρ1 id = ρ id) /\ ∀ id ∈ ma.up.map (·.1), ρ1 id = ρa id := by
  refine ⟨_, _, hlay1, fun id hid => ?_, fun id hid => ?_, fun id hid => ?_⟩
  ·rw [Qav.2 (by rw [c1]; exact hid)]; rfl
  ·have h1 := hboxkey id hid
   have h2 : id ∉ L.map (·.1) := fun hh => hk1 id hh (by rw [List.map_append, List.mem_append]; exact .inl h1)
   rw [Qaq.2 h2, Qav.2 h1]
   exact b4 id hid
  ·have h2 : id ∉ L.map (·.1) := fun hh => hk1 id hh (by rw [List.map_append, List.mem_append]; exact .inr hid)
   have h3 : id ∉ mb.up.map (·.1) := fun hh => hk2 id hh hid
   rw [Qaq.2 h2, Qaq.2 h3]; rfl
 have hO : ∀ q ∈ L ++ (mb.up ++ ma.up), updL (fun _ => Ob.none) (L ++ (mb.up ++ ma.up)) q.1 = q.2 := fun q hq => Qfj _ _ hnall hq
 have hkept : KeptR w s ρ (K.arrs ++ K.boxes.map (·.1)) ρ1 (updL (fun _ => Ob.none) (L ++ (mb.up ++ ma.up))) := by
  intro id hid
  rcases List.mem_append.1 hid with hid | hid
  ·obtain ⟨q, hq, hqe⟩ := List.mem_map.1 (by rw [c1]; exact hid : id ∈ L.map (·.1))
   have e1 := hO q (by simp [hq])
   rw [hqe] at e1
   rw [e1, (c2 q hq).1, hqe]
   obtain ⟨T, e, xs, hh⟩ := harr id hid
   exact h.compat (by rw [hh]; simp) (hρa id hid) (fun _ _ => rfl) _
  ·obtain ⟨_, o, q1, q2⟩ := b2 id hid
   have e1 := hO (id, o) (by simp [q1])
   have e1 : updL (fun _ => Ob.none) (L ++ (mb.up ++ ma.up)) id = o := e1
   rw [e1, hρb id hid]
   exact q2
 have hsz : ∀ id b, φ1 id b -> b < w.heap.size /\ ¬ (st b ∨ ∃ id ∈ ma.fr ++ mb.fr, φ id b) := fun id b hb => by
  obtain ⟨⟨j, hj, hjb⟩, _⟩ := hlay.sup id b hb
  refine ⟨(h.lt j b hjb).1, ?_⟩
  rintro (hs | ⟨i, hi, hib⟩)
  ·exact (h.lt j b hjb).2 hs
  ·have := h.dj i j b hib hjb; subst this
   rcases hj with hj | hj | hj
   ·exact hfd i hi (by simp [hj])
   ·rcases List.mem_append.1 hi with hi | hi
    ·obtain ⟨T, e, xs, hh⟩ := a1 i (by simp [hi]); exact hbx i hj T e xs hh
    ·obtain ⟨T, e, xs, hh⟩ := b1 i (by simp [hi]); exact hbx i hj T e xs hh
   ·exact hfd i hi (by simp only [List.mem_append] at hj ⊢; exact .inr hj)
 have hlv : ∀ id ∈ (L ++ (mb.up ++ ma.up)).map (·.1), updL (fun _ => Ob.none) (L ++ (mb.up ++ ma.up)) id ≠ .none := fun id hid => by
  obtain ⟨q, hq, rfl⟩ := List.mem_map.1 hid
  rw [hO q hq]; exact hlay.nn q hq
 subst hm
 refine ⟨_, ρ1, φ1, ⟨h.nt, h.df, fun t ht => ?_, fun t => ?_, fun id => ?_, hsz, hlay.dj, fun t id hid => ?_, fun k id hid => ?_, ?_⟩, hfr.os, hfr.tape, hfr.output, hfr.size, hfr.keep, fun b hb => .inl (hfr.st1 b hb), ?_, ?_, ?_⟩
 ·refine Qbd _ _ (fun hm => ?_)
  obtain ⟨q, hq, rfl⟩ := List.mem_map.1 hm
  have := (henv q hq).1
  omega
 ·show RV _ _ _ _ (updL (fun _ => AV.unk) ma.env t) _
  rcases Qff (t := t) ma.env (fun _ => AV.unk) with he | ⟨v, hv, he⟩
  ·rw [he]; exact Qeq _
  ·rw [he]
   exact a3 ρ1 _ hρs (fun q hq => hO q (by simp [hq])) hkept (t, v) hv
 ·show ObR _ _ _ _ _ _ (updL (fun _ => Ob.none) (L ++ (mb.up ++ ma.up)) id)
  rcases Qby (L ++ (mb.up ++ ma.up)) (fun _ => Ob.none) id hnall with ⟨hk, he⟩ | ⟨v, hv, he⟩
  ·rw [he]
   exact fun b hb => hk (hlay.sup id b hb).2
  ·rw [he]
   exact hlay.ob ρ1 _ (fun _ _ => rfl) hO hkept (id, v) hv
 ·have hid : id ∈ (updL (fun _ => AV.unk) ma.env t).ids := hid
  rcases Qff (t := t) ma.env (fun _ => AV.unk) with he | ⟨v, hv, he⟩
  ·rw [he] at hid; cases hid
  ·rw [he] at hid
   exact hlv id ((henv (t, v) hv).2 id hid)
 ·have hid : id ∈ (updL (fun _ => Ob.none) (L ++ (mb.up ++ ma.up)) k).ids := hid
  rcases Qby (L ++ (mb.up ++ ma.up)) (fun _ => Ob.none) k hnall with ⟨hk, he⟩ | ⟨v, hv, he⟩
  ·rw [he] at hid; cases hid
  ·rw [he] at hid
   exact hlv id (hups (k, v) hv id hid)
 ·rintro b (hb | ⟨i, _, hib⟩)
  ·exact h.stlt b hb
  ·exact (h.lt i b hib).1
 ·rintro b (hb | ⟨i, _, hib⟩)
  ·exact hfr.st2 b hb
  ·exact .inr (hfr.ow i b hib)
 ·intro id b hb
  obtain ⟨⟨j, _, hjb⟩, _⟩ := hlay.sup id b hb
  exact hfr.ow j b hjb
 ·intro id hp5 hne
  have hne : updL (fun _ => Ob.none) (L ++ (mb.up ++ ma.up)) id ≠ .none := hne
  rcases Qby (L ++ (mb.up ++ ma.up)) (fun _ => Ob.none) id hnall with ⟨hk, he⟩ | ⟨v, hv, he⟩
  ·exact absurd he hne
  ·rcases List.mem_append.1 hv with hvL | hvU
   ·have hid : id ∈ K.arrs := by rw [<- c1]; exact List.mem_map.2 ⟨_, hvL, rfl⟩
    obtain ⟨T, e, xs, hh⟩ := harr id hid
    have := hfr.pid id hp5 (by rw [hh]; simp)
    exact ⟨this.1, by rw [hρa id hid]; exact this.2⟩
   ·have hid : id ∈ K.boxes.map (·.1) := (hnew (id, v) hvU).resolve_left (fun hlt => by
     have : id % 10000 < 5000 := hlt
     omega)
    have hne2 : s.hp id ≠ .none := by
     rcases (b2 id hid).1 with ⟨_, _, h2⟩ | ⟨_, _, h2⟩ <;> rw [h2] <;> simp
    have := hfr.pid id hp5 hne2
    exact ⟨this.1, by rw [hρb id hid]; exact this.2⟩
end
end Go.Vm

set_option linter.unusedVariables false
set_option linter.unusedSimpArgs false
namespace Go.Vm
def Ex.to : Ex -> Exit
 | .normal => .normal
 | .exit id => .exit id
 | .ret => .ret
def loopW (P : Program) (J : List Bool -> Act -> World -> Prop) : Code -> List Bool -> List Bool -> (Exit -> Act -> World -> Prop) -> Act -> World -> Prop
 | .seq a b, false :: q, p, Q => loopW P J a q (false :: p) (Exit.then (b.wp P Q) Q)
 | .seq _ b, true :: q, p, Q => loopW P J b q (true :: p) Q
 | .cond _ a _, false :: q, p, Q => loopW P J a q (false :: p) Q
 | .cond _ _ b, true :: q, p, Q => loopW P J b q (true :: p) Q
 | .block id b, false :: q, p, Q => loopW P J b q (false :: p) (Exit.inBlock id Q)
 | .loop b, [], _, Q => (Code.loop b).wp P Q
 | .loop b, false :: q, p, Q => loopW P J b q (false :: p) (Exit.then (J p) Q)
 | _, _, _, _ => fun _ _ => False
def roundW (P : Program) (J : List Bool -> Act -> World -> Prop) (J1 : Act -> World -> Prop) : Code -> List Bool -> List Bool -> (Exit -> Act -> World -> Prop) -> Act -> World -> Prop
 | .seq a b, false :: q, p, Q => roundW P J J1 a q (false :: p) (Exit.then (b.wp P Q) Q)
 | .seq _ b, true :: q, p, Q => roundW P J J1 b q (true :: p) Q
 | .cond _ a _, false :: q, p, Q => roundW P J J1 a q (false :: p) Q
 | .cond _ _ b, true :: q, p, Q => roundW P J J1 b q (true :: p) Q
 | .block id b, false :: q, p, Q => roundW P J J1 b q (false :: p) (Exit.inBlock id Q)
 | .loop b, [], _, Q => b.wp P (Exit.then J1 Q)
 | .loop b, false :: q, p, Q => roundW P J J1 b q (false :: p) (Exit.then (J p) Q)
 | _, _, _, _ => fun _ _ => False
theorem Qew {K K' : Act -> World -> Prop} {Q Q' : Exit -> Act -> World -> Prop} (hK : ∀ a w, K a w -> K' a w) (hQ : ∀ e a w, Q e a w -> Q' e a w) : ∀ e a w, Exit.then K Q e a w -> Exit.then K' Q' e a w := by
 intro e a w h
 cases e with
 | normal => exact hK a w h
 | _ => exact hQ _ a w h
theorem Qh7 {id : Nat} {Q Q' : Exit -> Act -> World -> Prop} (hQ : ∀ e a w, Q e a w -> Q' e a w) : ∀ e a w, Exit.inBlock id Q e a w -> Exit.inBlock id Q' e a w := by
 intro e a w h
 cases e with
 | exit i =>
  simp only [Exit.inBlock] at h ⊢
  split
  ·rename_i hi; rw [if_pos hi] at h; exact hQ _ a w h
  ·rename_i hi; rw [if_neg hi] at h; exact hQ _ a w h
 | _ => exact hQ _ a w h
section
variable {P : Program} {J J' : List Bool -> Act -> World -> Prop}
theorem Qps (hJ : ∀ p a w, J p a w -> J' p a w) : ∀ {c : Code} {q p : List Bool} {Q Q' : Exit -> Act -> World -> Prop} {a : Act} {w : World}, (∀ e a w, Q e a w -> Q' e a w) -> loopW P J c q p Q a w -> loopW P J' c q p Q' a w := by
 intro c
 induction c with
 | seq x y ihx ihy =>
  intro q p Q Q' a w hQ h
  match q, h with
  | false :: q, h => exact ihx (Qew (fun a w h => Code.wp_mono hQ h) hQ) h
  | true :: q, h => exact ihy hQ h
 | cond o x y ihx ihy =>
  intro q p Q Q' a w hQ h
  match q, h with
  | false :: q, h => exact ihx hQ h
  | true :: q, h => exact ihy hQ h
 | block id x ih =>
  intro q p Q Q' a w hQ h
  match q, h with
  | false :: q, h => exact ih (Qh7 hQ) h
 | loop x ih =>
  intro q p Q Q' a w hQ h
  match q, h with
  | [], h => exact Code.wp_mono hQ h
  | false :: q, h => exact ih (Qew (fun a w h => hJ p a w h) hQ) h
 | _ => intro q p Q Q' a w hQ h; simp [loopW] at h
theorem Qoa {J1 J1' : Act -> World -> Prop} (hJ : ∀ p a w, J p a w -> J' p a w) (hJ1 : ∀ a w, J1 a w -> J1' a w) : ∀ {c : Code} {q p : List Bool} {Q Q' : Exit -> Act -> World -> Prop} {a : Act} {w : World}, (∀ e a w, Q e a w -> Q' e a w) -> roundW P J J1 c q p Q a w -> roundW P J' J1' c q p Q' a w := by
 intro c
 induction c with
 | seq x y ihx ihy =>
  intro q p Q Q' a w hQ h
  match q, h with
  | false :: q, h => exact ihx (Qew (fun a w h => Code.wp_mono hQ h) hQ) h
  | true :: q, h => exact ihy hQ h
 | cond o x y ihx ihy =>
  intro q p Q Q' a w hQ h
  match q, h with
  | false :: q, h => exact ihx hQ h
  | true :: q, h => exact ihy hQ h
 | block id x ih =>
  intro q p Q Q' a w hQ h
  match q, h with
  | false :: q, h => exact ih (Qh7 hQ) h
 | loop x ih =>
  intro q p Q Q' a w hQ h
  match q, h with
  | [], h => exact Code.wp_mono (Qew hJ1 hQ) h
  | false :: q, h => exact ih (Qew (fun a w h => hJ p a w h) hQ) h
 | _ => intro q p Q Q' a w hQ h; simp [roundW] at h
theorem Qkl {I : Act -> World -> Prop} {μ : Act -> World -> Nat} : ∀ {c : Code} {q p : List Bool} {Q : Exit -> Act -> World -> Prop}, (∀ a w, I a w -> roundW P J (fun a' w' => I a' w' /\ μ a' w' < μ a w) c q p Q a w) ->
  ∀ {a : Act} {w : World}, I a w -> loopW P J c q p Q a w := by
 intro c
 induction c with
 | seq x y ihx ihy =>
  intro q p Q hr a w hi
  match q, hr with
  | false :: q, hr => exact ihx hr hi
  | true :: q, hr => exact ihy hr hi
  | [], hr => exact (hr a w hi).elim
 | cond o x y ihx ihy =>
  intro q p Q hr a w hi
  match q, hr with
  | false :: q, hr => exact ihx hr hi
  | true :: q, hr => exact ihy hr hi
  | [], hr => exact (hr a w hi).elim
 | block id x ih =>
  intro q p Q hr a w hi
  match q, hr with
  | false :: q, hr => exact ih hr hi
  | true :: q, hr => exact (hr a w hi).elim
  | [], hr => exact (hr a w hi).elim
 | loop x ih =>
  intro q p Q hr a w hi
  match q, hr with
  | [], hr => exact wp_loop I μ hi hr
  | false :: q, hr => exact ih hr hi
  | true :: q, hr => exact (hr a w hi).elim
 | _ => intro q p Q hr a w hi; have := hr a w hi; simp [roundW] at this
end
section
variable {P : Program} {X : Ctx} {w0 : World} {st0 : Blks} {ρ0 : Nat -> Value} {φ0 : Nat -> Blks} {s0 : St} {R : Type} {y0 : R} {M : List Bool -> St -> Option R} {J : List Bool -> Act -> World -> Prop}
def KOk (X : Ctx) (w0 : World) (st0 : Blks) (ρ0 : Nat -> Value) (φ0 : Nat -> Blks) (s0 : St) (y0 : R) (K : Ex -> St -> Option R) (Q : Exit -> Act -> World -> Prop) : Prop :=
 ∀ e s a w, Inv X w0 st0 ρ0 φ0 s0 a w s -> K e s = some y0 -> Q e.to a w
theorem Qa2 (b : Bool) (q p : List Bool) : (b :: q).reverse ++ p = q.reverse ++ (b :: p) := by simp
theorem KOk.seq {K : Ex -> St -> Option R} {Q : Exit -> Act -> World -> Prop} (hK : KOk X w0 st0 ρ0 φ0 s0 y0 K Q) {L : St -> Option R} {N : Act -> World -> Prop} (hL : ∀ a w s, Inv X w0 st0 ρ0 φ0 s0 a w s -> L s = some y0 -> N a w) :
  KOk X w0 st0 ρ0 φ0 s0 y0 (fun e s' => match e with | .normal => L s' | e => K e s') (Exit.then N Q) := by
 intro e s a w hi h
 cases e with
 | normal => exact hL a w s hi h
 | exit i => exact hK (.exit i) s a w hi h
 | ret => exact hK .ret s a w hi h
theorem KOk.block {K : Ex -> St -> Option R} {Q : Exit -> Act -> World -> Prop} (hK : KOk X w0 st0 ρ0 φ0 s0 y0 K Q) (id : Nat) :
  KOk X w0 st0 ρ0 φ0 s0 y0 (fun e s' => match e with | .exit i => bif Nat.beq i id then K .normal s' else K (.exit i) s' | e => K e s') (Exit.inBlock id Q) := by
 intro e s a w hi h
 cases e with
 | normal => exact hK .normal s a w hi h
 | ret => exact hK .ret s a w hi h
 | exit i =>
  show (if i = id then Q .normal a w else Q (.exit i) a w)
  simp only at h
  by_cases hid : i = id
  ·rw [if_pos hid]
   rw [hid, Qcq] at h
   exact hK .normal s a w hi h
  ·rw [if_neg hid]
   rw [Qd4 hid] at h
   exact hK (.exit i) s a w hi h
theorem ev_ok (hA : TyAll P X) (hC : ConOk P X) (hmix : P.follows .mixedOrders = true) : ∀ {c : Code} {p : List Bool} {K : Ex -> St -> Option R} {Q : Exit -> Act -> World -> Prop}, KOk X w0 st0 ρ0 φ0 s0 y0 K Q ->
  (∀ q a w s, Inv X w0 st0 ρ0 φ0 s0 a w s -> M (q.reverse ++ p) s = some y0 -> loopW P J c q p Q a w) -> ∀ {a : Act} {w : World} {s : St}, Inv X w0 st0 ρ0 φ0 s0 a w s -> ev X M c p K s = some y0 -> c.wp P Q a w := by
 intro c
 induction c with
 | skip => intro p K Q hK hM a w s hi h; exact wp_skip (hK .normal s a w hi h)
 | region id ops draw =>
  intro p K Q hK hM a w s hi h
  simp only [ev] at h
  cases hf : s.fzSlots (X.fz id) with
  | none => rw [hf] at h; cases h
  | some s1 =>
   rw [hf] at h; simp only at h
   have hi1 := hi.fzSlots hf
   cases draw
   ·simp only [cond_false] at h
    exact wp_region_list (Qjp hA hC (fun a w s hi h => hK .normal s a w hi h) _ _ _ _ hi1 h)
   ·simp only [cond_true] at h
    exact Qq8 hA hC hmix (fun a w s hi h => hK .normal s a w hi h) hi1 h
 | seq x y ihx ihy =>
  intro p K Q hK hM a w s hi h
  refine wp_seq (ihx (hK.seq fun a w s hi h => ihy hK (fun q a w s hi hm => hM (true :: q) a w s hi (by rw [Qa2]; exact hm)) hi h) (fun q a w s hi hm => hM (false :: q) a w s hi (by rw [Qa2]; exact hm)) hi h)
 | cond o x y ihx ihy =>
  intro p K Q hK hM a w s hi h
  cases o with
  | tmp t =>
   simp only [ev] at h
   split at h
   ·rename_i c hc
    have hev : a.eval (.tmp t) = .bool c := by
     obtain ⟨st, ρ, φ, h1, _⟩ := hi
     have := Qap h1 0 (.tmp t)
     have e : rho X s.env 0 (.tmp t) = s.env t := rfl
     rw [e, hc] at this
     exact Qdd this
    cases c
    ·simp only [cond_false] at h
     rw [Qf7 hc] at h
     exact wp_cond_false hev (ihy hK (fun q a w s hi hm => hM (true :: q) a w s hi (by rw [Qa2]; exact hm)) hi h)
    ·simp only [cond_true] at h
     rw [Qf7 hc] at h
     exact wp_cond_true hev (ihx hK (fun q a w s hi hm => hM (false :: q) a w s hi (by rw [Qa2]; exact hm)) hi h)
   ·rename_i e hc
    obtain ⟨c, hev, hce⟩ : ∃ c : Bool, a.eval (.tmp t) = .bool c /\ (c = true -> e = true) := by
     obtain ⟨st, ρ, φ, h1, _⟩ := hi
     have := Qap h1 0 (.tmp t)
     have e : rho X s.env 0 (.tmp t) = s.env t := rfl
     rw [e, hc] at this
     obtain ⟨c, h2, h3⟩ := Qao this rfl rfl (by simp)
     exact ⟨c, by simpa using h2, h3⟩
    have goF : ev X M y (true :: p) K s = some y0 -> c = false -> _ := fun h hc => wp_cond_false (x := x) (y := y) (by rw [hev, hc]) (ihy hK (fun q a w s hi hm => hM (true :: q) a w s hi (by rw [Qa2]; exact hm)) hi h)
    cases e
    ·have hcf : c = false := by
      cases c
      ·rfl
      ·exact absurd (hce rfl) (by simp)
     exact goF h hcf
    ·simp only [cond_true] at h
     obtain ⟨ha, hb⟩ := Qo7 h
     cases c
     ·exact goF hb rfl
     ·exact wp_cond_true hev (ihx hK (fun q a w s hi hm => hM (false :: q) a w s hi (by rw [Qa2]; exact hm)) hi ha)
   ·cases h
  | _ => simp [ev] at h
 | block id x ih =>
  intro p K Q hK hM a w s hi h
  exact wp_block (ih (hK.block id) (fun q a w s hi hm => hM (false :: q) a w s hi (by rw [Qa2]; exact hm)) hi h)
 | loop x ih =>
  intro p K Q hK hM a w s hi h
  simp only [ev] at h
  cases hm : mask X (X.keep p) s with
  | none => rw [hm] at h; cases h
  | some s1 =>
   rw [hm] at h
   exact hM [] a w s1 (hi.mask hm) h
 | exit id => intro p K Q hK hM a w s hi h; exact wp_exit (hK (.exit id) s a w hi h)
 | ret => intro p K Q hK hM a w s hi h; exact wp_ret (hK .ret s a w hi h)
 | _ => intro p K Q hK hM a w s hi h; simp [ev] at h
theorem Qtu (hA : TyAll P X) (hC : ConOk P X) (hmix : P.follows .mixedOrders = true) (hJ : ∀ p a w s, Inv X w0 st0 ρ0 φ0 s0 a w s -> M p s = some y0 -> J p a w) : ∀ {c : Code} {q p : List Bool} {K : Ex -> St -> Option R} {Q : Exit -> Act -> World -> Prop}, KOk X w0 st0 ρ0 φ0 s0 y0 K Q ->
  (∀ q a w s, Inv X w0 st0 ρ0 φ0 s0 a w s -> M (q.reverse ++ p) s = some y0 -> loopW P J c q p Q a w) -> ∀ {a : Act} {w : World} {s : St}, Inv X w0 st0 ρ0 φ0 s0 a w s -> evAt X M c q p K s = some y0 -> roundW P J (J (q.reverse ++ p)) c q p Q a w := by
 intro c
 induction c with
 | seq x y ihx ihy =>
  intro q p K Q hK hM a w s hi h
  match q, h with
  | false :: q, h =>
   rw [Qa2]
   exact ihx (hK.seq fun a w s hi h => ev_ok hA hC hmix hK (fun q a w s hi hm => hM (true :: q) a w s hi (by rw [Qa2]; exact hm)) hi h) (fun q a w s hi hm => hM (false :: q) a w s hi (by rw [Qa2]; exact hm)) hi h
  | true :: q, h =>
   rw [Qa2]
   exact ihy hK (fun q a w s hi hm => hM (true :: q) a w s hi (by rw [Qa2]; exact hm)) hi h
  | [], h => simp [evAt] at h
 | cond o x y ihx ihy =>
  intro q p K Q hK hM a w s hi h
  match q, h with
  | false :: q, h =>
   rw [Qa2]
   exact ihx hK (fun q a w s hi hm => hM (false :: q) a w s hi (by rw [Qa2]; exact hm)) hi h
  | true :: q, h =>
   rw [Qa2]
   exact ihy hK (fun q a w s hi hm => hM (true :: q) a w s hi (by rw [Qa2]; exact hm)) hi h
  | [], h => simp [evAt] at h
 | block id x ih =>
  intro q p K Q hK hM a w s hi h
  match q, h with
  | false :: q, h =>
   rw [Qa2]
   exact ih (hK.block id) (fun q a w s hi hm => hM (false :: q) a w s hi (by rw [Qa2]; exact hm)) hi h
  | true :: q, h => simp [evAt] at h
  | [], h => simp [evAt] at h
 | loop x ih =>
  intro q p K Q hK hM a w s hi h
  have hK' : KOk X w0 st0 ρ0 φ0 s0 y0 (fun e s' => match e with | .normal => (match mask X (X.keep p) s' with | some s'' => M p s'' | none => none) | e => K e s') (Exit.then (J p) Q) := hK.seq fun a w s hi h => by
   cases hm : mask X (X.keep p) s with
   | none => rw [hm] at h; cases h
   | some s1 => rw [hm] at h; exact hJ p a w s1 (hi.mask hm) h
  match q, h with
  | [], h => exact ev_ok hA hC hmix hK' (fun q a w s hi hm => hM (false :: q) a w s hi (by rw [Qa2]; exact hm)) hi h
  | false :: q, h =>
   rw [Qa2]
   exact ih hK' (fun q a w s hi hm => hM (false :: q) a w s hi (by rw [Qa2]; exact hm)) hi h
  | true :: q, h => simp [evAt] at h
 | _ => intro q p K Q hK hM a w s hi h; simp [evAt] at h
end
end Go.Vm

set_option linter.unusedVariables false
set_option linter.unusedSimpArgs false
namespace Go.Vm
section
variable {P : Program} {X : Ctx} {w : World} {st : Blks} {n : Nat} {s : St}
def ParM (ρ : Nat -> Value) (k : Nat) : (m : Mode) -> m.inSh.den -> Value -> Prop
 | .lend _ _, _, v => ρ k = v
 | .pO _, _, v => ρ k = v
 | .pI _, _, v => ρ k = v
 | .loan S, x, v => ∃ cs, VR S v cs /\ LoanC ρ S x cs k
 | .imm _, _, _ => True
 | .own _, _, _ => True
 | .pR _, _, _ => True
 | .clo _ _, _, _ => True
def ParV (ρ : Nat -> Value) : (ms : List Mode) -> (insSh ms).den -> List Value -> Nat -> Prop
 | [], _, _, _ => True
 | m :: ms, x, v :: vs, i => ParM ρ (pseed i) m x.1 v /\ ParV ρ ms x.2 vs (i + 1)
 | _ :: _, _, [], _ => False
theorem Qi4 : ∀ {ss : List Sh} {x : (chain ss).den} {vs : List Value} {k : Nat} {ids : List Nat} {l : List (Nat × Ob)}, CapsR w st ss x vs -> capsInit ss x k = (ids, l) -> (l.map (·.1)).Nodup ->
  ∃ ρ1, Lay w st (fun _ => False) l ρ1 (fun _ _ => False) /\ l.map (·.1) = ids /\ ids.map ρ1 = vs
 | [], x, vs, k, ids, l, h, e, hn => by
  cases e
  have h : vs = [] := h
  exact ⟨fun _ => undef, Lay.nil _ _, rfl, by simp [h]⟩
 | s :: ss, x, vs, k, ids, l, ⟨b, arr, T, fz, vs', h1, h2, h3, h4, h5⟩, e, hn => by
  simp only [capsInit] at e
  cases e2 : capsInit ss x.2 (k + 1) with
  | mk ids2 l2 =>
  rw [e2] at e
  simp only [Prod.mk.injEq] at e
  obtain ⟨rfl, rfl⟩ := e
  simp only [List.map_cons, List.nodup_cons] at hn
  obtain ⟨ρ2, g1, g2, g3⟩ := Qi4 h5 e2 hn.2
  have hk : ∀ j ∈ l2.map (·.1), j ≠ k := fun j hj e => hn.1 (e ▸ hj)
  refine ⟨Go.Vm.upd ρ2 k (.pointer (some ⟨b, 0, none⟩)), ⟨fun _ _ h => h.elim, fun _ _ _ h => h.elim, fun q hq => ?_, fun q hq id hid => ?_, fun ρ O q1 q2 q hq => ?_⟩, by simp [g2], ?_⟩
  ·rcases List.mem_cons.1 hq with rfl | hq
   ·simp
   ·exact g1.nn q hq
  ·rcases List.mem_cons.1 hq with rfl | hq
   ·cases hid
   ·simp only [List.map_cons, List.mem_cons]; exact .inr (g1.ids q hq id hid)
  ·rcases List.mem_cons.1 hq with rfl | hq
   ·exact ⟨b, arr, T, fz, by rw [q1 k (by simp), Qa0], h2, h3, h4, fun _ h => h⟩
   ·exact g1.ob ρ O (fun j hj => by rw [q1 j (by simp only [List.map_cons, List.mem_cons]; exact .inr hj), Qa5 _ _ (hk j hj)]) (fun q hq => q2 q (by simp [hq])) q hq
  ·rw [List.map_cons, Qa0, h1]
   congr 1
   rw [<- g3]
   exact List.map_congr_left fun j hj => Qa5 _ _ (hk j (by rw [g2]; exact hj))
theorem Qrd {m : Mode} {x : m.inSh.den} {v : Value} {F : Blks} {k : Nat} {av : AV} {l : List (Nat × Ob)} (h : ArgR w st m x v F) (e : initAV m x k = (av, l)) (hn : (l.map (·.1)).Nodup) :
  ∃ ρ1 φ1, Lay w st F l ρ1 φ1 /\ (∀ id ∈ av.ids, id ∈ l.map (·.1)) /\ (∀ ρ : Nat -> Value, (∀ id ∈ l.map (·.1), ρ id = ρ1 id) -> ParM ρ k m x v) /\ ∀ (ρ : Nat -> Value) (O : Nat -> Ob), (∀ id ∈ l.map (·.1), ρ id = ρ1 id) -> (∀ q ∈ l, O q.1 = q.2) -> RV w st ρ O av v := by
 cases m with
 | imm S =>
  cases e
  obtain ⟨cs, h1, h2⟩ := h
  exact ⟨fun _ => undef, _, Lay.nil F _, by simp [AV.ids], fun _ _ => trivial, fun ρ O _ _ => Qc5 h2 h1⟩
 | own S =>
  obtain ⟨cs, h1, h2⟩ := h
  simp only [initAV] at e
  cases hi : intro S x k with
  | mk u p =>
  obtain ⟨l2, k2⟩ := p
  rw [hi] at e; cases e
  obtain ⟨ρ1, φ1, i1, i2, i3, i4⟩ := Qg3 (st := st) h2 hi hn
  exact ⟨ρ1, φ1, i1, i2, fun _ _ => trivial, fun ρ O q1 q2 => Qdp (i4 st ρ O q1 q2).1 (i4 st ρ O q1 q2).2 h1⟩
 | loan S =>
  obtain ⟨cs, h1, h2⟩ := h
  simp only [initAV] at e
  cases hi : intro S x k with
  | mk u p =>
  obtain ⟨l2, k2⟩ := p
  rw [hi] at e; cases e
  obtain ⟨ρ1, φ1, i1, i2, i3, i4, _, i6⟩ := Qf5 (st := st) h2 hi hn
  exact ⟨ρ1, φ1, i1, i2, fun ρ h => ⟨cs, h1, i6 ρ h⟩, fun ρ O q1 q2 => Qdp (i4 st ρ O q1 q2).1 (i4 st ρ O q1 q2).2 h1⟩
 | lend T el =>
  cases e
  have h : Ow w (.sl T el) x [v] F := h
  have hone : v.oneCell' = true := Qc2 h v (by simp)
  refine ⟨fun _ => v, fun j b => j = k /\ F b, ⟨?_, ?_, by simp, by simp [Ob.ids], fun ρ O q1 q2 q hq => ?_⟩, by simp [AV.ids], fun ρ h => h k (by simp), fun ρ O q1 q2 => ?_⟩
  ·rintro j b ⟨rfl, hb⟩; exact ⟨hb, by simp⟩
  ·rintro i j b ⟨rfl, _⟩ ⟨rfl, _⟩; rfl
  ·simp at hq; subst hq
   show Ow w (.sl T el) x [ρ k] _
   rw [q1 k (by simp)]
   exact Ow_up (fun b hb => ⟨rfl, hb⟩) h
  ·have hr := q1 k (by simp)
   exact Qa1 (av := .sref k none []) ⟨rfl, ⟨_, _, _, .inl (q2 (k, .arr T el x) (by simp))⟩, by rw [hr], by rw [hr]; exact hone⟩ rfl rfl
 | pO S =>
  obtain ⟨b, arr, T, F', h1, h2, h3, h4, h5, h6⟩ := h
  simp only [initAV] at e
  cases hi : intro S x (k + 1) with
  | mk u p =>
  obtain ⟨l2, k2⟩ := p
  rw [hi] at e; cases e
  simp only [List.map_cons, List.nodup_cons] at hn
  obtain ⟨ρ1, φ1, i1, i2, i3, i4⟩ := Qg3 (st := st) h4 hi hn.2
  refine ⟨Go.Vm.upd ρ1 k v, fun j c => if j = k then c = b else φ1 j c, ⟨fun j c hc => ?_, fun i j c g1 g2 => ?_, fun q hq => ?_, fun q hq id hid => ?_, fun ρ O q1 q2 q hq => ?_⟩, by simp [AV.ids], fun ρ h => (h k (by simp)).trans (Qa0 _ _ _), fun ρ O q1 q2 => ?_⟩
  ·by_cases hj : j = k
   ·simp only [hj, if_true] at hc; subst hc; exact ⟨h2, by simp [hj]⟩
   ·simp only [hj, if_false] at hc
    have := i1.sup j c hc
    exact ⟨h6 c this.1, by simp only [List.map_cons, List.mem_cons]; exact .inr this.2⟩
  ·by_cases hi : i = k <;> by_cases hj : j = k
   ·rw [hi, hj]
   ·simp only [hi, if_true] at g1; simp only [hj, if_false] at g2; subst g1
    exact (h5 (i1.sup j c g2).1).elim
   ·simp only [hj, if_true] at g2; simp only [hi, if_false] at g1; subst g2
    exact (h5 (i1.sup i c g1).1).elim
   ·simp only [hi, hj, if_false] at g1 g2
    exact i1.dj i j c g1 g2
  ·rcases List.mem_cons.1 hq with rfl | hq
   ·simp
   ·exact i1.nn q hq
  ·simp only [List.map_cons, List.mem_cons]
   rcases List.mem_cons.1 hq with rfl | hq
   ·exact .inr (i2 id hid)
   ·exact .inr (i1.ids q hq id hid)
  ·have hag : ∀ j ∈ l2.map (·.1), ρ j = ρ1 j := fun j hj => by
    rw [q1 j (by simp only [List.map_cons, List.mem_cons]; exact .inr hj), Qa5 _ _ (fun e : j = k => hn.1 (by rw [<- e]; exact hj))]
   have hagO : ∀ q ∈ l2, O q.1 = q.2 := fun q hq => q2 q (by simp [hq])
   rcases List.mem_cons.1 hq with rfl | hq
   ·obtain ⟨f1, f2⟩ := i4 st ρ O hag hagO
    exact ⟨b, arr, T, by rw [q1 k (by simp), Qa0, h1], by simp, h3, f1, f2⟩
   ·refine Qdw (i1.ob ρ O hag hagO q hq) (fun c => ?_)
    have : q.1 ≠ k := fun e => hn.1 (by rw [<- e]; exact List.mem_map.2 ⟨q, hq, rfl⟩)
    simp [this]
  ·have hr := q1 k (by simp)
   rw [Qa0] at hr
   exact Qa1 (av := .ptr k none []) ⟨b, 0, ⟨S, S, .inl ⟨_, q2 (k, .box S u) (by simp)⟩, by rw [hr, h1], Qbc _, (Qba S).symm⟩, by rw [h1]⟩ rfl rfl
 | pI S =>
  cases e
  obtain ⟨b, arr, T, h1, h2, h3, h4⟩ := h
  refine ⟨fun _ => v, fun j c => j = k /\ c = b, ⟨?_, ?_, by simp, by simp [Ob.ids, AV.ids], fun ρ O q1 q2 q hq => ?_⟩, by simp [AV.ids], fun ρ h => h k (by simp), fun ρ O q1 q2 => ?_⟩
  ·rintro j c ⟨rfl, rfl⟩; exact ⟨h2, by simp⟩
  ·rintro i j b ⟨rfl, _⟩ ⟨rfl, _⟩; rfl
  ·simp at hq; subst hq
   exact ⟨b, arr, T, by rw [q1 k (by simp), h1], ⟨rfl, rfl⟩, h3, Qbb.2 rfl, h4⟩
  ·have hr := q1 k (by simp)
   exact Qa1 (av := .ptr k none []) ⟨b, 0, ⟨S, S, .inl ⟨_, q2 (k, .box S (.val S x)) (by simp)⟩, by rw [hr, h1], Qbc _, (Qba S).symm⟩, by rw [h1]⟩ rfl rfl
 | pR S =>
  cases e
  obtain ⟨b, arr, T, fz, h1, h2, h3, h4⟩ := h
  refine ⟨fun _ => v, fun _ _ => False, ⟨fun _ _ h => h.elim, fun _ _ _ h => h.elim, by simp, by simp [Ob.ids], fun ρ O q1 q2 q hq => ?_⟩, by simp [AV.ids], fun _ _ => trivial, fun ρ O q1 q2 => ?_⟩
  ·simp at hq; subst hq
   exact ⟨b, arr, T, fz, by rw [q1 k (by simp), h1], h2, h3, h4, fun _ h => h⟩
  ·have hr := q1 k (by simp)
   exact Qa1 (av := .ptr k none []) ⟨b, 0, ⟨S, S, .inr ⟨_, q2 (k, .cbox S x) (by simp)⟩, by rw [hr, h1], Qbc _, (Qba S).symm⟩, by rw [h1]⟩ rfl rfl
 | clo f ss =>
  obtain ⟨vs, h1, h2⟩ := h
  simp only [initAV] at e
  cases hi : capsInit ss x k with
  | mk ids l2 =>
  rw [hi] at e; cases e
  obtain ⟨ρ1, g1, g2, g3⟩ := Qi4 h2 hi hn
  refine ⟨ρ1, _, g1.up (fun _ h => h.elim), fun id hid => by rw [g2]; exact hid, fun _ _ => trivial, fun ρ O q1 q2 => Qa1 (av := .fn f ids) ?_ rfl rfl⟩
  have : ids.map ρ = vs := by
   rw [<- g3]
   exact List.map_congr_left fun j hj => q1 j (by rw [g2]; exact hj)
  show [v] = [_]
  rw [h1, this]
theorem Qm9 : ∀ {ms : List Mode} {x : (insSh ms).den} {vals : List Value} {L : Blks} {i : Nat} {vs : List (Nat × AV)} {ls : List (Nat × Ob)}, ArgsR w st ms x vals L -> initL ms x i = (vs, ls) -> (ls.map (·.1)).Nodup ->
  ∃ ρ1 φ1, Lay w st L ls ρ1 φ1 /\ (∀ ρ : Nat -> Value, (∀ id ∈ ls.map (·.1), ρ id = ρ1 id) -> ParV ρ ms x vals i) /\ vals.length = ms.length /\ ∀ (ρ : Nat -> Value) (O : Nat -> Ob), (∀ id ∈ ls.map (·.1), ρ id = ρ1 id) -> (∀ q ∈ ls, O q.1 = q.2) ->
   ∀ q ∈ vs, ∃ j v, q.1 = i + j /\ vals[j]? = some v /\ RV w st ρ O q.2 v /\ ∀ id ∈ q.2.ids, id ∈ ls.map (·.1)
 | [], x, vals, L, i, vs, ls, h, e, hn => by
  cases e
  have h : vals = [] := h
  exact ⟨fun _ => undef, _, Lay.nil _ _, fun _ _ => trivial, by simp [h], by simp⟩
 | m :: ms, x, vals, L, i, vs, ls, ⟨v, r, F1, F2, h1, h2, h3, h4, h5, h6⟩, e, hn => by
  simp only [initL] at e
  cases e1 : initAV m x.1 (pseed i) with
  | mk av l1 =>
  cases e2 : initL ms x.2 (i + 1) with
  | mk vs2 l2 =>
  rw [e1, e2] at e
  simp only [Prod.mk.injEq] at e
  obtain ⟨rfl, rfl⟩ := e
  subst h1
  rw [List.map_append] at hn
  have hn' := List.nodup_append.1 hn
  have hk : ∀ id, id ∈ l1.map (·.1) -> id ∉ l2.map (·.1) := fun id h1 h2 => hn'.2.2 id h1 id h2 rfl
  obtain ⟨ρ1, φ1, a1, a2, a3, a4⟩ := Qrd h5 e1 hn'.1
  obtain ⟨ρ2, φ2, b1, b2, b3, b4⟩ := Qm9 h6 e2 hn'.2.1
  refine ⟨_, _, Lay.both (F := L) a1 b1 h2 h3 h4 hk, fun ρ hρ => ⟨a3 ρ (fun id hid => ?_), b2 ρ (fun id hid => ?_)⟩, by simp [b3], fun ρ O q1 q2 q hq => ?_⟩
  ·rw [hρ id (by rw [List.map_append, List.mem_append]; exact .inl hid), Qav.2 hid]; rfl
  ·rw [hρ id (by rw [List.map_append, List.mem_append]; exact .inr hid), Qaq.2 (fun h => hk id h hid)]; rfl
  ·rcases List.mem_cons.1 hq with rfl | hq
   ·refine ⟨0, v, rfl, rfl, a4 ρ O (fun id hid => by rw [q1 id (by rw [List.map_append, List.mem_append]; exact .inl hid), Qav.2 hid]; rfl) (fun q hq => q2 q (by simp [hq])), fun id hid => ?_⟩
    rw [List.map_append, List.mem_append]; exact .inl (a2 id hid)
   ·obtain ⟨j, u, g1, g2, g3, g4⟩ := b4 ρ O (fun id hid => by rw [q1 id (by rw [List.map_append, List.mem_append]; exact .inr hid), Qaq.2 (fun h => hk id h hid)]; rfl) (fun q hq => q2 q (by simp [hq])) q hq
    refine ⟨j + 1, u, by omega, by simpa using g2, g3, fun id hid => ?_⟩
    rw [List.map_append, List.mem_append]; exact .inr (g4 id hid)
theorem Qtv {ms : List Mode} {x : (insSh ms).den} {vals : List Value} {L : Blks} {fn : Func} (h : ArgsR w st ms x vals L) (hn : ((initL ms x 0).2.map (·.1)).Nodup) (hnt : X.n = fn.ntmps) (hle : ms.length <= X.n)
  (hst : ∀ b, st b -> b < w.heap.size /\ ¬ L b) (hL : ∀ b, L b -> b < w.heap.size) :
  ∃ ρ φ, Sim w st ρ φ X.n { tmps := vals.toArray ++ Array.replicate (fn.ntmps - vals.toArray.size) undef, defers := [] } (initSt ms x) /\ (∀ id b, φ id b -> L b) /\ ParV ρ ms x vals 0 := by
 cases e : initL ms x 0 with
 | mk vs ls =>
 rw [e] at hn
 obtain ⟨ρ, φ, h1, h2, h3, h4⟩ := Qm9 h e hn
 have hO : ∀ q ∈ ls, updL (fun _ => Ob.none) ls q.1 = q.2 := fun q hq => Qfj _ _ hn hq
 have h5 := h4 ρ (updL (fun _ => Ob.none) ls) (fun _ _ => rfl) hO
 have hlv : ∀ id ∈ ls.map (·.1), updL (fun _ => Ob.none) ls id ≠ .none := fun id hid => by
  obtain ⟨q, hq, rfl⟩ := List.mem_map.1 hid
  rw [hO q hq]; exact h1.nn q hq
 have hs : initSt ms x = ⟨updL (fun _ => .unk) vs, updL (fun _ => .none) ls⟩ := by unfold initSt; rw [e]
 rw [hs]
 refine ⟨ρ, φ, ⟨?_, rfl, fun t ht => ?_, fun t => ?_, fun id => ?_, fun id b hb => ?_, h1.dj, fun t id hid => ?_, fun k id hid => ?_, fun b hb => (hst b hb).1⟩, fun id b hb => (h1.sup id b hb).1, h2 ρ (fun _ _ => rfl)⟩
 ·simp; omega
 ·rcases Qff (t := t) vs (fun _ => AV.unk) with he | ⟨v, hv, he⟩
  ·exact he
  ·obtain ⟨j, u, g1, g2, _⟩ := h5 _ hv
   have := (List.getElem?_eq_some_iff.1 g2).1
   simp only at g1
   omega
 ·show RV _ _ _ _ (updL (fun _ => AV.unk) vs t) _
  rcases Qff (t := t) vs (fun _ => AV.unk) with he | ⟨v, hv, he⟩
  ·rw [he]; exact Qeq _
  ·rw [he]
   obtain ⟨j, u, g1, g2, g3, _⟩ := h5 _ hv
   simp only [Nat.zero_add] at g1
   subst g1
   have hlt := (List.getElem?_eq_some_iff.1 g2).1
   have : (vals.toArray ++ Array.replicate (fn.ntmps - vals.toArray.size) undef).getD t undef = u := by
    rw [Array.getD_eq_getD_getElem?, Array.getElem?_append_left (by simpa using hlt)]
    simp [g2]
   rw [this]; exact g3
 ·show ObR _ _ _ _ _ _ (updL (fun _ => Ob.none) ls id)
  rcases Qby ls (fun _ => Ob.none) id hn with ⟨hk, he⟩ | ⟨v, hv, he⟩
  ·rw [he]; exact fun b hb => hk (h1.sup id b hb).2
  ·rw [he]; exact h1.ob ρ _ (fun _ _ => rfl) hO (id, v) hv
 ·have := (h1.sup id b hb).1
  exact ⟨hL b this, fun hs => (hst b hs).2 this⟩
 ·have hid : id ∈ (updL (fun _ => AV.unk) vs t).ids := hid
  rcases Qff (t := t) vs (fun _ => AV.unk) with he | ⟨v, hv, he⟩
  ·rw [he] at hid; cases hid
  ·rw [he] at hid
   obtain ⟨j, u, _, _, _, g4⟩ := h5 _ hv
   exact hlv id (g4 id hid)
 ·have hid : id ∈ (updL (fun _ => Ob.none) ls k).ids := hid
  rcases Qby ls (fun _ => Ob.none) k hn with ⟨hk, he⟩ | ⟨v, hv, he⟩
  ·rw [he] at hid; cases hid
  ·rw [he] at hid
   exact hlv id (h1.ids (k, v) hv id hid)
end
end Go.Vm

set_option linter.unusedVariables false
set_option linter.unusedSimpArgs false
namespace Go.Vm
section
variable {P : Program} {X : Ctx} {w : World} {st st' : Blks} {ρ : Nat -> Value} {φ : Nat -> Blks} {n : Nat} {a : Act} {s : St}
def pbx : List Mode -> Nat -> List Nat
 | [], _ => []
 | .pO _ :: r, i => pseed i :: pbx r (i + 1)
 | .pI _ :: r, i => pseed i :: pbx r (i + 1)
 | .imm _ :: r, i => pbx r (i + 1)
 | .own _ :: r, i => pbx r (i + 1)
 | .lend _ _ :: r, i => pbx r (i + 1)
 | .pR _ :: r, i => pbx r (i + 1)
 | .clo _ _ :: r, i => pbx r (i + 1)
 | .loan _ :: r, i => pbx r (i + 1)
theorem Qkm : ∀ {ms : List Mode} {i id : Nat}, id ∈ pbx ms i -> ∃ j, i <= j /\ id = pseed j
 | m :: ms, i, id, h => by
  have key : id ∈ pbx ms (i + 1) -> ∃ j, i <= j /\ id = pseed j := fun h => by
   obtain ⟨j, h1, h2⟩ := Qkm h; exact ⟨j, by omega, h2⟩
  cases m with
  | pO S => rcases List.mem_cons.1 h with rfl | h; exact ⟨i, Nat.le_refl _, rfl⟩; exact key h
  | pI S => rcases List.mem_cons.1 h with rfl | h; exact ⟨i, Nat.le_refl _, rfl⟩; exact key h
  | imm S => exact key h
  | own S => exact key h
  | lend T e => exact key h
  | pR S => exact key h
  | clo f ss => exact key h
  | loan S => exact key h
theorem Qlw {i j : Nat} (h : pseed i = pseed j) : i = j := by unfold pseed at h; omega
theorem Qex (i : Nat) : pseed i % 10000 = 5000 := by unfold pseed; omega
theorem Qjt (h : Sim w st ρ φ n a s) {ρ0 : Nat -> Value} (hρ : ∀ id, id % 10000 = 5000 -> s.hp id ≠ .none -> ρ id = ρ0 id) : ∀ {S : Sh} {x z : S.den} {cs : List Value} {k : Nat} {D : List Nat}, k % 10000 = 5000 -> LoanC ρ0 S x cs k ->
  loanOut s.hp S x k = some (z, D) -> D.Nodup -> Ow w S z cs (fun b => ∃ id ∈ D, φ id b) /\ ∀ id ∈ D, ∃ T e xs, s.hp id = .arr T e xs
 | .int _, x, z, cs, k, D, hk, hc, ho, hn => by cases ho; exact ⟨hc, by simp⟩
 | .bool, x, z, cs, k, D, hk, hc, ho, hn => by cases ho; exact ⟨hc, by simp⟩
 | .str, x, z, cs, k, D, hk, hc, ho, hn => by cases ho; exact ⟨hc, by simp⟩
 | .unit, x, z, cs, k, D, hk, hc, ho, hn => by cases ho; exact ⟨hc, by simp⟩
 | .sl T e, x, z, cs, k, D, hk, hc, ho, hn => by
  simp only [loanOut] at ho
  cases hq : s.hp k with
  | arr T' e' xs =>
   rw [hq] at ho; simp only at ho
   cases hcs : cst (.sl T' e') (.sl T e) xs with
   | none => rw [hcs] at ho; cases ho
   | some y =>
    rw [hcs] at ho
    cases ho
    obtain ⟨ee, he⟩ := Qbl hcs
    cases ee; cases he
    have hob := h.ob k
    rw [hq] at hob
    have hc : cs = [ρ0 k] := hc
    refine ⟨?_, fun id hid => ?_⟩
    ·rw [hc, <- hρ k hk (by rw [hq]; simp)]
     exact Ow_up (fun b hb => ⟨k, by simp, hb⟩) hob
    ·simp at hid; subst hid; exact ⟨_, _, _, hq⟩
  | _ => rw [hq] at ho; cases ho
 | .pair p q, x, z, cs, k, D, hk, ⟨c1, c2, hc, hc1, hc2⟩, ho, hn => by
  simp only [loanOut] at ho
  cases e1 : loanOut s.hp p x.1 k with
  | none => rw [e1] at ho; simp at ho
  | some r1 =>
   obtain ⟨y1, l⟩ := r1
   cases e2 : loanOut s.hp q x.2 (k + 10000 * p.nsl) with
   | none => rw [e1, e2] at ho; simp at ho
   | some r2 =>
    obtain ⟨y2, m⟩ := r2
    rw [e1, e2] at ho
    cases ho
    have hn' := List.nodup_append.1 hn
    obtain ⟨g1, g2⟩ := Qjt h hρ hk hc1 e1 hn'.1
    obtain ⟨q1, q2⟩ := Qjt h hρ (by omega) hc2 e2 hn'.2.1
    refine ⟨⟨c1, c2, _, _, hc, ?_, ?_, ?_, g1, q1⟩, fun id hid => ?_⟩
    ·rintro b ⟨i, hi, hb⟩ ⟨j, hj, hb'⟩
     have := h.dj i j b hb hb'; subst this
     exact hn'.2.2 i hi i hj rfl
    ·rintro b ⟨i, hi, hb⟩; exact ⟨i, by simp [hi], hb⟩
    ·rintro b ⟨i, hi, hb⟩; exact ⟨i, by simp [hi], hb⟩
    ·rcases List.mem_append.1 hid with hid | hid
     ·exact g2 id hid
     ·exact q2 id hid
theorem Qfg (h : Sim w st ρ φ n a s) (hst : ∀ b, st b -> st' b) {ρ0 : Nat -> Value} (hρ : ∀ id, id % 10000 = 5000 -> s.hp id ≠ .none -> ρ id = ρ0 id) : ∀ {ms : List Mode} {x : (insSh ms).den} {vals : List Value} {i : Nat} {y : (backSh ms).den} {D : List Nat}, backOut s.hp ms x i = some (y, D) -> ParV ρ0 ms x vals i -> D.Nodup ->
  (∀ id ∈ pbx ms i, ∃ S v, s.hp id = .box S v) /\ (∀ id ∈ D, ∃ T e xs, s.hp id = .arr T e xs) /\ BackR w st' ms y vals (fun b => (∃ id ∈ D, φ id b) ∨ ∃ id ∈ pbx ms i, φ id b)
 | [], x, vals, i, y, D, hb, hp, hn => by cases hb; exact ⟨by simp [pbx], by simp, trivial⟩
 | m :: ms, x, [], i, y, D, hb, hp, hn => hp.elim
 | m :: ms, x, v :: vals, i, y, D, hb, hp, hn => by
  have plain : ∀ {y' : (backSh ms).den}, backOut s.hp ms x.2 (i + 1) = some (y', D) -> (∀ id ∈ pbx ms (i + 1), ∃ S v, s.hp id = .box S v) /\ (∀ id ∈ D, ∃ T e xs, s.hp id = .arr T e xs) /\ BackR w st' ms y' vals (fun b => (∃ id ∈ D, φ id b) ∨ ∃ id ∈ pbx ms (i + 1), φ id b) :=
   fun hb' => Qfg h hst hρ hb' hp.2 hn
  cases m with
  | imm S => obtain ⟨g1, g2, g3⟩ := plain hb; exact ⟨g1, g2, v, vals, fun _ => False, _, rfl, fun _ h _ => h, fun _ h => h.elim, fun _ h => h, fun z hz => (by cases hz), g3⟩
  | own S => obtain ⟨g1, g2, g3⟩ := plain hb; exact ⟨g1, g2, v, vals, fun _ => False, _, rfl, fun _ h _ => h, fun _ h => h.elim, fun _ h => h, fun z hz => (by cases hz), g3⟩
  | pR S => obtain ⟨g1, g2, g3⟩ := plain hb; exact ⟨g1, g2, v, vals, fun _ => False, _, rfl, fun _ h _ => h, fun _ h => h.elim, fun _ h => h, fun z hz => (by cases hz), g3⟩
  | clo f ss => obtain ⟨g1, g2, g3⟩ := plain hb; exact ⟨g1, g2, v, vals, fun _ => False, _, rfl, fun _ h _ => h, fun _ h => h.elim, fun _ h => h, fun z hz => (by cases hz), g3⟩
  | loan S =>
   simp only [backOut] at hb
   cases hc : loanOut s.hp S x.1 (pseed i) with
   | none => rw [hc] at hb; simp at hb
   | some q =>
    obtain ⟨z, D1⟩ := q
    cases hr : backOut s.hp ms x.2 (i + 1) with
    | none => rw [hc, hr] at hb; simp at hb
    | some p =>
     obtain ⟨y2, E⟩ := p
     rw [hc, hr] at hb
     simp only [Option.some.injEq, Prod.mk.injEq] at hb
     obtain ⟨rfl, rfl⟩ := hb
     have hn' := List.nodup_append.1 hn
     obtain ⟨⟨cs, p1, p2⟩, hp2⟩ := hp
     obtain ⟨g1, g2, g3⟩ := Qfg h hst hρ hr hp2 hn'.2.1
     obtain ⟨k1, k2⟩ := Qjt h hρ (Qex i) p2 hc hn'.1
     refine ⟨g1, fun id hid => ?_, v, vals, fun b => ∃ id ∈ D1, φ id b, _, rfl, ?_, ?_, ?_, fun z' hz => ?_, g3⟩
     ·rcases List.mem_append.1 hid with hid | hid
      ·exact k2 id hid
      ·exact g2 id hid
     ·rintro b ⟨j, hj, hb⟩ (⟨j', hj', hjb⟩ | ⟨j', hj', hjb⟩)
      ·have := h.dj j j' b hb hjb; subst this; exact hn'.2.2 j hj j hj' rfl
      ·have := h.dj j j' b hb hjb; subst this
       obtain ⟨_, _, _, hh⟩ := k2 _ hj
       obtain ⟨_, _, hh2⟩ := g1 _ hj'
       rw [hh] at hh2; cases hh2
     ·rintro b ⟨j, hj, hb⟩; exact .inl ⟨j, by simp [hj], hb⟩
     ·rintro b (⟨j, hj, hjb⟩ | hb)
      ·exact .inl ⟨j, by simp [hj], hjb⟩
      ·exact .inr hb
     ·cases hz; exact ⟨cs, p1, k1⟩
  | lend T e =>
   simp only [backOut] at hb
   cases hq : s.hp (pseed i) with
   | arr T' e' xs =>
    rw [hq] at hb; simp only at hb
    cases hc : cst (.sl T' e') (.sl T e) xs with
    | none => rw [hc] at hb; simp at hb
    | some z =>
     cases hr : backOut s.hp ms x.2 (i + 1) with
     | none => rw [hc, hr] at hb; simp at hb
     | some p =>
      obtain ⟨y2, E⟩ := p
      rw [hc, hr] at hb
      simp only [Option.some.injEq, Prod.mk.injEq] at hb
      obtain ⟨rfl, rfl⟩ := hb
      obtain ⟨ee, he⟩ := Qbl hc
      cases ee; cases he
      simp only [List.nodup_cons] at hn
      obtain ⟨g1, g2, g3⟩ := Qfg h hst hρ hr hp.2 hn.2
      have hob := h.ob (pseed i)
      rw [hq] at hob
      have hv : ρ (pseed i) = v := by rw [hρ (pseed i) (Qex i) (by rw [hq]; simp)]; exact hp.1
      rw [<- hv]
      refine ⟨g1, fun id hid => ?_, ρ (pseed i), vals, φ (pseed i), _, rfl, ?_, fun b hb => .inl ⟨pseed i, by simp, hb⟩, ?_, fun z' hz => ?_, g3⟩
      ·rcases List.mem_cons.1 hid with rfl | hid
       ·exact ⟨_, _, _, hq⟩
       ·exact g2 id hid
      ·rintro b hb (⟨j, hj, hjb⟩ | ⟨j, hj, hjb⟩)
       ·have := h.dj (pseed i) j b hb hjb; subst this; exact hn.1 hj
       ·have := h.dj (pseed i) j b hb hjb; subst this
        obtain ⟨S, u, hh⟩ := g1 _ hj
        rw [hq] at hh; cases hh
      ·rintro b (⟨j, hj, hjb⟩ | hb)
       ·exact .inl ⟨j, by simp [hj], hjb⟩
       ·exact .inr hb
      ·cases hz; exact hob
   | _ => rw [hq] at hb; cases hb
  | pO S =>
   simp only [backOut] at hb
   cases hq : s.hp (pseed i) with
   | box S' u =>
    rw [hq] at hb; simp only at hb
    split at hb
    ·rename_i hS
     subst hS
     cases hc : absorb s.hp S' u with
     | none => rw [hc] at hb; simp at hb
     | some q =>
      obtain ⟨z, D1⟩ := q
      cases hr : backOut s.hp ms x.2 (i + 1) with
      | none => rw [hc, hr] at hb; simp at hb
      | some p =>
       obtain ⟨y2, E⟩ := p
       rw [hc, hr] at hb
       simp only [Option.some.injEq, Prod.mk.injEq] at hb
       obtain ⟨rfl, rfl⟩ := hb
       have hn' := List.nodup_append.1 hn
       obtain ⟨g1, g2, g3⟩ := Qfg h hst hρ hr hp.2 hn'.2.1
       have hob := h.ob (pseed i)
       rw [hq] at hob
       obtain ⟨b, arr, T, k1, k2, k3, k4, k5⟩ := hob
       have hv : ρ (pseed i) = v := by rw [hρ (pseed i) (Qex i) (by rw [hq]; simp)]; exact hp.1
       have hD1 : ∀ id ∈ D1, ∃ T e xs, s.hp id = .arr T e xs := fun id hid => by
        exact Qo8 hc id hid
       have hOw := Qcl h (fun _ _ => rfl) hc hn'.1 k5
       refine ⟨fun id hid => ?_, fun id hid => ?_, v, vals, fun b => φ (pseed i) b ∨ ∃ id ∈ D1, φ id b, _, rfl, ?_, ?_, ?_, fun z' hz => ?_, g3⟩
       ·rcases List.mem_cons.1 hid with rfl | hid
        ·exact ⟨_, _, hq⟩
        ·exact g1 id hid
       ·rcases List.mem_append.1 hid with hid | hid
        ·exact hD1 id hid
        ·exact g2 id hid
       ·intro b' hb1 hb2
        obtain ⟨p, hp', hpb⟩ : ∃ p, (p = pseed i ∨ p ∈ D1) /\ φ p b' := by
         rcases hb1 with hb | ⟨j, hj, hb⟩
         ·exact ⟨_, .inl rfl, hb⟩
         ·exact ⟨j, .inr hj, hb⟩
        obtain ⟨q, hq', hqb⟩ : ∃ q, (q ∈ E ∨ q ∈ pbx ms (i + 1)) /\ φ q b' := by
         rcases hb2 with ⟨j, hj, hb⟩ | ⟨j, hj, hb⟩
         ·exact ⟨j, .inl hj, hb⟩
         ·exact ⟨j, .inr hj, hb⟩
        have := h.dj p q b' hpb hqb; subst this
        rcases hp' with rfl | hp' <;> rcases hq' with hq' | hq'
        ·obtain ⟨_, _, _, hh⟩ := g2 _ hq'; rw [hq] at hh; cases hh
        ·obtain ⟨j, hj, he⟩ := Qkm hq'
         have := Qlw he; omega
        ·exact hn'.2.2 p hp' p hq' rfl
        ·obtain ⟨_, _, _, hh⟩ := hD1 _ hp'
         obtain ⟨_, _, hh2⟩ := g1 _ hq'
         rw [hh] at hh2; cases hh2
       ·rintro b' (hb | ⟨j, hj, hb⟩)
        ·exact .inr ⟨pseed i, by simp [pbx], hb⟩
        ·exact .inl ⟨j, by simp [hj], hb⟩
       ·rintro b' (⟨j, hj, hb⟩ | ⟨j, hj, hb⟩)
        ·exact .inl ⟨j, by simp [hj], hb⟩
        ·exact .inr ⟨j, by simp [pbx, hj], hb⟩
       ·cases hz
        refine ⟨b, arr, T, fun b => ∃ id ∈ D1, φ id b, by rw [<- hv, k1], .inl k2, k3, hOw, ?_, fun c hc => .inr hc⟩
        rintro ⟨j, hj, hjb⟩
        have := h.dj (pseed i) j b k2 hjb; subst this
        obtain ⟨_, _, _, hh⟩ := hD1 _ hj
        rw [hq] at hh; cases hh
    ·cases hb
   | _ => rw [hq] at hb; cases hb
  | pI S =>
   simp only [backOut] at hb
   cases hq : s.hp (pseed i) with
   | box S' u =>
    rw [hq] at hb
    cases u with
    | val sv xv =>
     simp only at hb
     split at hb
     ·rename_i hS
      subst hS
      cases hc : cst sv S' xv with
      | none => rw [hc] at hb; simp at hb
      | some z =>
       cases hr : backOut s.hp ms x.2 (i + 1) with
       | none => rw [hc, hr] at hb; simp at hb
       | some p =>
        obtain ⟨y2, E⟩ := p
        rw [hc, hr] at hb
        simp only [Option.some.injEq, Prod.mk.injEq] at hb
        obtain ⟨rfl, rfl⟩ := hb
        obtain ⟨ee, he⟩ := Qbl hc
        subst ee; cases he
        obtain ⟨g1, g2, g3⟩ := Qfg h hst hρ hr hp.2 hn
        have hob := h.ob (pseed i)
        rw [hq] at hob
        obtain ⟨b, arr, T, k1, k2, k3, k4, k5⟩ := hob
        have hv : ρ (pseed i) = v := by rw [hρ (pseed i) (Qex i) (by rw [hq]; simp)]; exact hp.1
        refine ⟨fun id hid => ?_, g2, v, vals, φ (pseed i), _, rfl, ?_, ?_, ?_, fun z' hz => ?_, g3⟩
        ·rcases List.mem_cons.1 hid with rfl | hid
         ·exact ⟨_, _, hq⟩
         ·exact g1 id hid
        ·rintro b' hb (⟨j, hj, hjb⟩ | ⟨j, hj, hjb⟩)
         ·have := h.dj (pseed i) j b' hb hjb; subst this
          obtain ⟨_, _, _, hh⟩ := g2 _ hj; rw [hq] at hh; cases hh
         ·have := h.dj (pseed i) j b' hb hjb; subst this
          obtain ⟨k, hk, he⟩ := Qkm hj
          have := Qlw he; omega
        ·intro b' hb; exact .inr ⟨pseed i, by simp [pbx], hb⟩
        ·rintro b' (hb | ⟨j, hj, hb⟩)
         ·exact .inl hb
         ·exact .inr ⟨j, by simp [pbx, hj], hb⟩
        ·cases hz
         exact ⟨b, arr, T, by rw [<- hv, k1], k2, k3, Im_up hst k5⟩
     ·cases hb
    | _ => simp at hb
   | _ => rw [hq] at hb; cases hb
theorem Qlx {hp : Nat -> Ob} : ∀ {v u : AV} {l : List Nat}, immAV hp v = some (u, l) -> ∃ t y, u = .val t y := by
 intro v
 induction v with
 | val t x => intro u l h; cases h; exact ⟨_, _, rfl⟩
 | nilv T e => intro u l h; cases h; exact ⟨_, _, rfl⟩
 | sref id ix p =>
  intro u l h
  cases ix with
  | some i =>
   simp only [immAV] at h
   cases hq : hp id with
   | arr T e xs =>
    rw [hq] at h; simp only at h
    split at h
    ·cases h; exact ⟨_, _, rfl⟩
    ·cases h
   | _ => rw [hq] at h; cases h
  | none =>
   cases p with
   | cons _ _ => simp [immAV] at h
   | nil =>
    simp only [immAV] at h
    cases hq : hp id with
    | arr T e xs => rw [hq] at h; cases h; exact ⟨_, _, rfl⟩
    | _ => rw [hq] at h; cases h
 | pair p q ihp ihq =>
  intro u l h
  simp only [immAV] at h
  cases h1 : immAV hp p with
  | none => rw [h1] at h; simp at h
  | some r1 =>
   obtain ⟨u1, l1⟩ := r1
   cases h2 : immAV hp q with
   | none => rw [h1, h2] at h; simp at h
   | some r2 =>
    obtain ⟨u2, l2⟩ := r2
    rw [h1, h2] at h
    simp only [Option.some.injEq, Prod.mk.injEq] at h
    obtain ⟨rfl, rfl⟩ := h
    obtain ⟨t1, y1, rfl⟩ := ihp h1
    obtain ⟨t2, y2, rfl⟩ := ihq h2
    exact ⟨_, _, rfl⟩
 | _ => intro u l h; cases h
def resF (tmps : Array Value) : ResultVar -> Sem Value
 | .tmp t => pure (tmps.getD t undef)
 | .cell q t => do loadVar t (<- asAddr (tmps.getD q undef))
theorem Qju (hA : TyAll P X) (h : Sim w st ρ φ n a s) {r : ResultVar} {av : AV} (hr : retAV X s r = some av) :
  ∃ u, (resF a.tmps r).run P w = .ok u w /\ RV w st ρ s.hp av u := by
 cases r with
 | tmp t => cases hr; exact ⟨_, rfl, h.env t⟩
 | cell q T =>
  simp only [retAV] at hr
  cases hv : s.env q with
  | ptr id ix p =>
   rw [hv] at hr
   cases ix with
   | some _ => simp at hr
   | none =>
    cases p with
    | cons _ _ => simp at hr
    | nil =>
     cases hT : X.ty T with
     | none => rw [hT] at hr; simp at hr
     | some p =>
      obtain ⟨S, nf⟩ := p
      rw [hT] at hr; simp only at hr
      cases hq : s.hp id with
      | box S' u =>
       rw [hq] at hr; simp only at hr
       split at hr
       ·rename_i hS
        subst hS
        cases hr
        have henv := h.env q
        rw [hv] at henv
        obtain ⟨b, arr, T', h1, h2, h3, h4, h5, h6⟩ := Qir h hq henv
        obtain ⟨u, g1, g2⟩ := (hA T S' nf hT).loadVar (w := w) (b := b) (o := 0) (Qcc h5 h6) (fun j v hj => by
         have := Qbo (o := 0) (sz := arr.toList.length) h4 j v (by rw [List.drop_zero, List.take_length]; exact hj)
         simpa using this)
        refine ⟨u, ?_, Qdp h5 h6 g1⟩
        simp [resF, h1, asAddr, g2]
       ·cases hr
      | _ => rw [hq] at hr; cases hr
  | _ => rw [hv] at hr; simp at hr
theorem Qkn (hA : TyAll P X) (h : Sim w st ρ φ n a s) {ρ0 : Nat -> Value} (hρ : ∀ id, id % 10000 = 5000 -> s.hp id ≠ .none -> ρ id = ρ0 id) {ms : List Mode} {x : (insSh ms).den} {vals : List Value} (hp : ParV ρ0 ms x vals 0) :
  ∀ {rs : List (RK × Sh)} {vars : List ResultVar} {o : Out rs ms}, retOut X s rs ms x vars = some o -> o.own.Nodup -> (∀ b, st b -> st' b) -> (∀ id ∈ o.fr, ∀ b, φ id b -> st' b) ->
   (∀ id ∈ pbx ms 0, ∃ S v, s.hp id = .box S v) /\ (∀ id ∈ o.fr, ∃ T e xs, s.hp id = .arr T e xs) /\
   ∃ us, (vars.mapM (resF a.tmps)).run P w = .ok us w /\
    ResR w st' rs ms o.y us vals (fun b => (∃ id ∈ o.own, φ id b) ∨ ∃ id ∈ pbx ms 0, φ id b)
 | [], [], o, ho, hn, hst, hfr => by
  simp only [retOut] at ho
  cases hb : backOut s.hp ms x 0 with
  | none => rw [hb] at ho; cases ho
  | some p =>
   obtain ⟨y, D⟩ := p
   rw [hb] at ho; cases ho
   obtain ⟨g1, g2, g3⟩ := Qfg h hst hρ hb hp hn
   exact ⟨g1, by simp, [], by simp, rfl, g3⟩
 | [], _ :: _, o, ho, hn, hst, hfr => by simp [retOut] at ho
 | (.own, S) :: rs, [], o, ho, hn, hst, hfr => by simp [retOut] at ho
 | (.new, S) :: rs, [], o, ho, hn, hst, hfr => by simp [retOut] at ho
 | (.imm, S) :: rs, [], o, ho, hn, hst, hfr => by simp [retOut] at ho
 | (.own, S) :: rs, v :: vs, o, ho, hn, hst, hfr => by
  simp only [retOut] at ho
  cases h1 : retAV X s v with
  | none => rw [h1] at ho; simp at ho
  | some av =>
   cases h2 : retOut X s rs ms x vs with
   | none => rw [h1, h2] at ho; simp at ho
   | some o' =>
    rw [h1, h2] at ho; simp only at ho
    cases h3 : absorb s.hp S av with
    | none => rw [h3] at ho; cases ho
    | some p =>
     obtain ⟨y, D⟩ := p
     rw [h3] at ho; cases ho
     have hn' := List.nodup_append.1 hn
     obtain ⟨u, g1, g2⟩ := Qju hA h h1
     obtain ⟨q1, q2, us, q3, q4⟩ := Qkn hA h hρ hp h2 hn'.2.1 hst hfr
     obtain ⟨cs, k1, k2⟩ := Qet h3 g2
     have hOw := Qcl h (fun _ _ => rfl) h3 hn'.1 k2
     have hD : ∀ id ∈ D, ∃ T e xs, s.hp id = .arr T e xs := by
      have key : ∀ {v : AV} {S : Sh} {x : S.den} {D : List Nat}, absorb s.hp S v = some (x, D) -> ∀ id ∈ D, ∃ T e xs, s.hp id = .arr T e xs := by
       intro v
       induction v with
       | val t y => intro S x D h id hid; obtain ⟨_, _, _, rfl⟩ := Qck h; cases hid
       | pair p q ihp ihq =>
        intro S x D h id hid
        cases S with
        | pair a b =>
         obtain ⟨y, z, l, m, e1, e2, _, rfl⟩ := Qc3 h
         rcases List.mem_append.1 hid with hid | hid
         ·exact ihp e1 id hid
         ·exact ihq e2 id hid
        | _ => simp [absorb] at h
       | nilv T e =>
        intro S x D h id hid
        cases S with
        | sl T' e' => obtain ⟨_, rfl⟩ := Qdf h; cases hid
        | _ => simp [absorb] at h
       | sref j ix p =>
        intro S x D h id hid
        cases S with
        | sl T' e' =>
         obtain ⟨_, _, rfl, hq⟩ := Qcp h
         simp at hid; subst hid; exact ⟨_, _, _, hq⟩
        | _ => simp [absorb] at h
       | _ => intro S x D h; cases S <;> simp [absorb] at h
      exact key h3
     refine ⟨q1, fun id hid => ?_, u :: us, ?_, u, us, fun b => ∃ id ∈ D, φ id b, _, cs, rfl, ?_, ?_, ?_, k1, hOw, q4⟩
     ·exact q2 id hid
     ·rw [List.mapM_cons]
      simp only [Sem.run_bind]
      rw [g1]
      simp only [Result.andThen]
      rw [q3]
      rfl
     ·rintro b ⟨j, hj, hjb⟩ (⟨k, hk, hkb⟩ | ⟨k, hk, hkb⟩)
      ·have := h.dj j k b hjb hkb; subst this
       exact hn'.2.2 j hj j hk rfl
      ·have := h.dj j k b hjb hkb; subst this
       obtain ⟨_, _, _, hh⟩ := hD j hj
       obtain ⟨_, _, hh2⟩ := q1 j hk
       rw [hh] at hh2; cases hh2
     ·rintro b ⟨j, hj, hjb⟩; exact .inl ⟨j, by simp [hj], hjb⟩
     ·rintro b (⟨k, hk, hkb⟩ | hb)
      ·exact .inl ⟨k, by simp [hk], hkb⟩
      ·exact .inr hb
 | (.new, S) :: rs, v :: vs, o, ho, hn, hst, hfr => by
  simp only [retOut] at ho
  cases h1 : retAV X s v with
  | none => rw [h1] at ho; simp at ho
  | some av =>
   cases h2 : retOut X s rs ms x vs with
   | none => rw [h1, h2] at ho; simp at ho
   | some o' =>
    rw [h1, h2] at ho
    cases av with
    | ptr id ix p =>
     cases ix with
     | some _ => simp at ho
     | none =>
      cases p with
      | cons _ _ => simp at ho
      | nil =>
       simp only at ho
       cases hq : s.hp id with
       | box S' u =>
        rw [hq] at ho; simp only at ho
        split at ho
        ·rename_i hS
         subst hS
         cases h3 : immAV s.hp u with
         | none => rw [h3] at ho; cases ho
         | some p =>
          obtain ⟨uv, l⟩ := p
          rw [h3] at ho; simp only at ho
          cases h4 : toVal s.hp S' uv with
          | none => rw [h4] at ho; cases ho
          | some y =>
           rw [h4] at ho; simp only at ho
           cases h5 : Nat.blt (id % 10000) 5000 <;> rw [h5] at ho
           ·cases ho
           cases ho
           have h5 : id % 10000 < 5000 := by simpa [Nat.blt_eq] using h5
           obtain ⟨t, yy, rfl⟩ := Qlx h3
           have h4' : cst t S' yy = some y := by cases S' <;> exact h4
           obtain ⟨ee, he⟩ := Qbl h4'
           subst ee; cases he
           obtain ⟨uu, g1, g2⟩ := Qju hA h h1
           simp only [List.nodup_cons] at hn
           obtain ⟨q1, q2, us, q3, q4⟩ := Qkn hA h hρ hp h2 hn.2 hst (fun id hid => hfr id (by simp [hid]))
           obtain ⟨b, arr, T, b1, b2, b3, b4, b5, b6⟩ := Qir h hq g2
           obtain ⟨k1, _, k3, _, _, _, k7⟩ := Qg7 h hst s.hp ρ h3 b6 (fun id hid => hfr id (by simp [hid]))
           refine ⟨q1, fun j hj => ?_, uu :: us, ?_, uu, us, φ id, _, rfl, ?_, ?_, ?_, ⟨b, arr, T, b1, b3, b4, k1⟩, q4⟩
           ·rcases List.mem_append.1 hj with hj | hj
            ·exact k7 j hj
            ·exact q2 j hj
           ·rw [List.mapM_cons]
            simp only [Sem.run_bind]
            rw [g1]
            simp only [Result.andThen]
            rw [q3]
            rfl
           ·rintro b' hb (⟨k, hk, hkb⟩ | ⟨k, hk, hkb⟩)
            ·have := h.dj id k b' hb hkb; subst this
             exact hn.1 hk
            ·have := h.dj id k b' hb hkb; subst this
             obtain ⟨j, _, rfl⟩ := Qkm hk
             have := Qex j
             omega
           ·intro b' hb; exact .inl ⟨id, by simp, hb⟩
           ·rintro b' (⟨k, hk, hkb⟩ | hb)
            ·exact .inl ⟨k, by simp [hk], hkb⟩
            ·exact .inr hb
        ·cases ho
       | _ => rw [hq] at ho; cases ho
    | _ => simp at ho
 | (.imm, S) :: rs, v :: vs, o, ho, hn, hst, hfr => by
  simp only [retOut] at ho
  cases h1 : retAV X s v with
  | none => rw [h1] at ho; simp at ho
  | some av =>
   cases h2 : retOut X s rs ms x vs with
   | none => rw [h1, h2] at ho; simp at ho
   | some o' =>
    rw [h1, h2] at ho; simp only at ho
    cases h3 : immAV s.hp av with
    | none => rw [h3] at ho; cases ho
    | some p =>
     obtain ⟨uv, l⟩ := p
     rw [h3] at ho; simp only at ho
     cases h4 : toVal s.hp S uv with
     | none => rw [h4] at ho; cases ho
     | some y =>
      rw [h4] at ho; cases ho
      obtain ⟨t, yy, rfl⟩ := Qlx h3
      have h4' : cst t S yy = some y := by cases S <;> exact h4
      obtain ⟨ee, he⟩ := Qbl h4'
      subst ee; cases he
      obtain ⟨u, g1, g2⟩ := Qju hA h h1
      obtain ⟨q1, q2, us, q3, q4⟩ := Qkn hA h hρ hp h2 hn hst (fun id hid => hfr id (by simp [hid]))
      have hne : av.isTup = false /\ av ≠ .unk := by
       cases av with
       | unk => cases h3
       | tnil => cases h3
       | tcons _ _ => cases h3
       | _ => exact ⟨rfl, by simp⟩
      obtain ⟨cs, hcs, hrc⟩ : ∃ cs, ((av.agg = true /\ u = .agg cs.toArray) ∨ (av.agg = false /\ cs = [u])) /\ RC w st ρ s.hp av cs := by
       rcases g2 with ⟨hh, _⟩ | ⟨_, g2⟩
       ·rw [hne.1] at hh; cases hh
       ·rcases g2 with hu | ⟨ha, cs, rfl, hr⟩ | ⟨ha, hr⟩
        ·exact absurd hu hne.2
        ·exact ⟨cs.toList, .inl ⟨ha, by simp⟩, hr⟩
        ·exact ⟨[u], .inr ⟨ha, rfl⟩, hr⟩
      obtain ⟨k1, _, k3, _, _, _, k7⟩ := Qg7 h hst s.hp ρ h3 hrc (fun id hid => hfr id (by simp [hid]))
      have hVR : VR t u cs := by
       rw [<- k3] at hcs
       cases t with
       | pair p q => exact hcs.elim (fun hh => .inl ⟨rfl, hh.2⟩) (fun hh => by cases hh.1)
       | _ => exact hcs.elim (fun hh => by cases hh.1) (fun hh => .inr ⟨rfl, hh.2⟩)
      refine ⟨q1, fun id hid => ?_, u :: us, ?_, u, us, cs, rfl, hVR, k1, q4⟩
      ·rcases List.mem_append.1 hid with hid | hid
       ·exact k7 id hid
       ·exact q2 id hid
      ·rw [List.mapM_cons]
       simp only [Sem.run_bind]
       rw [g1]
       simp only [Result.andThen]
       rw [q3]
       rfl
end
end Go.Vm

set_option linter.unusedVariables false
set_option linter.unusedSimpArgs false
namespace Go.Vm
theorem least {T : Nat -> Prop} (h : ∃ j, T j) : ∃ j, T j /\ ∀ i, i < j -> ¬ T i := by
 obtain ⟨j, hj⟩ := h
 induction j using Nat.strongRecOn with
 | _ j ih =>
  by_cases hex : ∃ i, i < j /\ T i
  ·obtain ⟨i, hi, ht⟩ := hex; exact ih i hi ht
  ·exact ⟨j, hj, fun i hi ht => hex ⟨i, hi, ht⟩⟩
section
variable {P : Program} {X : Ctx} {w0 : World} {st0 : Blks} {ρ0 : Nat -> Value} {φ0 : Nat -> Blks} {s0 : St} {fn : Func} {rs : List (RK × Sh)} {ms : List Mode} {x : (insSh ms).den} {y0 : (outSh rs ms).den} {c0 : Code} {Q0 : Exit -> Act -> World -> Prop}
def TT (X : Ctx) (w0 : World) (st0 : Blks) (ρ0 : Nat -> Value) (φ0 : Nat -> Blks) (s0 : St) (fn : Func) (rs : List (RK × Sh)) (ms : List Mode) (x : (insSh ms).den) (y0 : (outSh rs ms).den) (p : List Bool) (a : Act) (w : World) (j : Nat) : Prop :=
 ∃ s, Inv X w0 st0 ρ0 φ0 s0 a w s /\ rounds X fn rs ms x j p s = some y0
def Jlt (X : Ctx) (w0 : World) (st0 : Blks) (ρ0 : Nat -> Value) (φ0 : Nat -> Blks) (s0 : St) (fn : Func) (rs : List (RK × Sh)) (ms : List Mode) (x : (insSh ms).den) (y0 : (outSh rs ms).den) (k : Nat) (p : List Bool) (a : Act) (w : World) : Prop :=
 ∃ j, j < k /\ TT X w0 st0 ρ0 φ0 s0 fn rs ms x y0 p a w j
theorem Qre (hA : TyAll P X) (hC : ConOk P X) (hmix : P.follows .mixedOrders = true) (hb : fn.body = some c0) (hK : KOk X w0 st0 ρ0 φ0 s0 y0 (kRet X fn rs ms x) Q0) :
  ∀ (k : Nat) (p : List Bool) (a : Act) (w : World) (s : St), Inv X w0 st0 ρ0 φ0 s0 a w s -> rounds X fn rs ms x k p s = some y0 -> loopW P (Jlt X w0 st0 ρ0 φ0 s0 fn rs ms x y0 k) c0 p.reverse [] Q0 a w := by
 intro k
 induction k using Nat.strongRecOn with
 | _ k ih =>
  intro p a w s hi hr
  open Classical in
  let μ : Act -> World -> Nat := fun a w => if h : ∃ j, TT X w0 st0 ρ0 φ0 s0 fn rs ms x y0 p a w j then Classical.choose (least h) else 0
  have hμ : ∀ a w, (∃ j, TT X w0 st0 ρ0 φ0 s0 fn rs ms x y0 p a w j) -> TT X w0 st0 ρ0 φ0 s0 fn rs ms x y0 p a w (μ a w) /\ ∀ i, TT X w0 st0 ρ0 φ0 s0 fn rs ms x y0 p a w i -> μ a w <= i := by
   intro a w h
   have e : μ a w = Classical.choose (least h) := by simp only [μ]; rw [dif_pos h]
   obtain ⟨h1, h2⟩ := Classical.choose_spec (least h)
   rw [e]
   refine ⟨h1, fun i hti => ?_⟩
   rcases Nat.lt_or_ge i (Classical.choose (least h)) with hlt | hge
   ·exact absurd hti (h2 i hlt)
   ·exact hge
  refine Qkl (I := fun a w => ∃ j, j <= k /\ TT X w0 st0 ρ0 φ0 s0 fn rs ms x y0 p a w j) (μ := μ) (fun a w hI => ?_) ⟨k, Nat.le_refl _, s, hi, hr⟩
  obtain ⟨j1, hj1, ht1⟩ := hI
  obtain ⟨⟨s1, hi1, hr1⟩, hmin⟩ := hμ a w ⟨j1, ht1⟩
  have hle : μ a w <= k := Nat.le_trans (hmin j1 ht1) hj1
  cases hj : μ a w with
  | zero => rw [hj] at hr1; cases hr1
  | succ j0 =>
   rw [hj] at hr1 hle
   simp only [rounds, hb] at hr1
   have hround := Qtu (M := rounds X fn rs ms x j0) (J := Jlt X w0 st0 ρ0 φ0 s0 fn rs ms x y0 (j0 + 1)) hA hC hmix (fun p a w s hi hm => ⟨j0, Nat.lt_succ_self _, s, hi, hm⟩) hK (fun q a w s hi hm => by
    rw [List.append_nil] at hm
    have := ih j0 (by omega) q.reverse a w s hi hm
    rw [List.reverse_reverse] at this
    exact Qps (fun p a w ⟨i, h1, h2⟩ => ⟨i, by omega, h2⟩) (fun _ _ _ h => h) this) hi1 hr1
   rw [List.reverse_reverse, List.append_nil] at hround
   refine Qoa (fun p a w ⟨i, h1, h2⟩ => ⟨i, by omega, h2⟩) (fun a' w' ⟨i, h1, h2⟩ => ⟨⟨i, by omega, h2⟩, ?_⟩) (fun _ _ _ h => h) hround
   have := (hμ a' w' ⟨i, h2⟩).2 i h2
   omega
theorem Qsz (hA : TyAll P X) (hC : ConOk P X) (hmix : P.follows .mixedOrders = true) {f : FuncId} {c : Con} {fn : Func} {c0 : Code} (hfn : P.funcs[f]? = some fn) (hb : fn.body = some c0) (hname : (fn.name == "runtime.NumGoroutine") = false)
  (hev : ∀ x, c.pre x = true -> ∃ k, evFn X fn c.rs c.ps k x = some (c.fn x)) : Sound P f c := by
 have hname : ¬ fn.name = "runtime.NumGoroutine" := by simpa using hname
 intro w st vals x L hst hL hpre hargs
 refine .inl ⟨by simp [callFunc, hfn, hname, hb], ?_⟩
 obtain ⟨k, hk⟩ := hev x hpre
 unfold evFn evBody at hk
 simp only [hb] at hk
 cases hcond : (nodup ((initL c.ps x 0).2.map (·.1)) && Nat.beq X.n fn.ntmps && Nat.ble c.ps.length X.n) <;> rw [hcond] at hk
 ·cases hk
 simp only [cond_true] at hk
 simp only [Bool.and_eq_true, Qb1, Nat.ble_eq] at hcond
 obtain ⟨⟨hn, hnt⟩, hlen⟩ := hcond
 have hnt := Nat.eq_of_beq_eq_true hnt
 obtain ⟨ρ, φ, hsim, hφL, hpar⟩ := Qtv (X := X) (fn := fn) hargs hn hnt hlen hst hL
 refine calls_of_wp hfn hb ?_
 have hI : Inv X w st ρ φ (initSt c.ps x) { tmps := vals.toArray ++ Array.replicate (fn.ntmps - vals.toArray.size) undef, defers := [] } w (initSt c.ps x) := ⟨st, ρ, φ, hsim, Fr.refl _ _ _ _ _⟩
 have hKret : KOk X w st ρ φ (initSt c.ps x) (c.fn x) (kRet X fn c.rs c.ps x) (bodyPost P fn fun e w' => ∃ us st' G, e = .returned (retV us) /\ Post w w' st L c x vals us st' G) := by
  intro e s a w' hi hret
  obtain ⟨st1, ρ1, φ1, h1, h2⟩ := hi
  have key : kRet X fn c.rs c.ps x .ret s = some (c.fn x) -> a.defers = [] /\ ∃ v, (results fn a.tmps).run P w' = .ok v w' /\ ∃ us st' G, Ending.returned v = .returned (retV us) /\ Post w w' st L c x vals us st' G := by
   intro hret
   simp only [kRet] at hret
   cases ho : retOut X s c.rs c.ps x fn.results.toList with
   | none => rw [ho] at hret; cases hret
   | some o =>
    rw [ho] at hret; simp only at hret
    cases hc : (nodup o.own && disj o.fr o.own) <;> rw [hc] at hret
    ·cases hret
    simp only [cond_true, Option.some.injEq] at hret
    simp only [Bool.and_eq_true, Qb1, Qdo] at hc
    obtain ⟨g1, g2, us, g3, g4⟩ := Qkn (P := P) (st' := fun b => st1 b ∨ ∃ id ∈ o.fr, φ1 id b) hA h1 (ρ0 := ρ) (fun id h5 hi => (h2.pid id (by omega) hi).2) hpar ho hc.1 (fun b hb => .inl hb) (fun id hid b hb => .inr ⟨id, hid, hb⟩)
    refine ⟨h1.df, retV us, ?_, us, _, _, rfl, h2.os, h2.tape, h2.output, h2.size, fun b hb hn => h2.keep b hb (fun id hid => hn (hφL id b hid)), fun b hb => .inl (h2.st1 b hb), ?_, ?_, ?_, ?_, hret ▸ g4⟩
    ·have hres : results fn a.tmps = (do let vs <- fn.results.mapM (resF a.tmps); pure (if h : vs.size = 1 then vs[0] else .tuple vs)) := rfl
     rw [hres, Array.mapM_eq_mapM_toList]
     simp only [bind_map_left, Sem.run_bind]
     rw [g3]
     simp only [Result.andThen, Sem.run_pure]
     cases us with
     | nil => rfl
     | cons u us =>
      cases us with
      | nil => rfl
      | cons _ _ => simp [retV]
    ·rintro b (hb | ⟨id, _, hb⟩)
     ·rcases h2.st2 b hb with hb | ⟨id, hb⟩ | hb
      ·exact .inl hb
      ·exact .inr (.inl (hφL id b hb))
      ·exact .inr (.inr hb)
     ·rcases h2.ow id b hb with ⟨j, hb⟩ | hb
      ·exact .inr (.inl (hφL j b hb))
      ·exact .inr (.inr hb)
    ·rintro b (hb | ⟨id, _, hb⟩)
     ·exact h1.stlt b hb
     ·exact (h1.lt id b hb).1
    ·rintro b (⟨id, _, hb⟩ | ⟨id, _, hb⟩) <;>
     ·rcases h2.ow id b hb with ⟨j, hb⟩ | hb
      ·exact .inl (hφL j b hb)
      ·exact .inr hb
    ·rintro b hb
     obtain ⟨id, hid, hib⟩ : ∃ id, (id ∈ o.own ∨ id ∈ pbx c.ps 0) /\ φ1 id b := by
      rcases hb with ⟨id, h, hb⟩ | ⟨id, h, hb⟩
      ·exact ⟨id, .inl h, hb⟩
      ·exact ⟨id, .inr h, hb⟩
     refine ⟨(h1.lt id b hib).1, ?_⟩
     rintro (hs | ⟨j, hj, hjb⟩)
     ·exact (h1.lt id b hib).2 hs
     ·have := h1.dj id j b hib hjb; subst this
      rcases hid with hid | hid
      ·exact hc.2 id hj hid
      ·obtain ⟨_, _, _, hh⟩ := g2 id hj
       obtain ⟨_, _, hh2⟩ := g1 id hid
       rw [hh] at hh2; cases hh2
  cases e with
  | normal => exact key hret
  | ret => exact key hret
  | exit i => cases hret
 exact ev_ok (M := rounds X fn c.rs c.ps x k) (J := Jlt X w st ρ φ (initSt c.ps x) fn c.rs c.ps x (c.fn x) k) hA hC hmix hKret (fun q a w' s hi hm => by
  rw [List.append_nil] at hm
  have := Qre hA hC hmix hb hKret k q.reverse a w' s hi hm
  rw [List.reverse_reverse] at this
  exact this) hI hk
end
end Go.Vm

set_option linter.unusedVariables false
set_option linter.unusedSimpArgs false
namespace Go.Vm
def tyOf : List (Nat × Sh × Nat) -> TypeId -> Option (Sh × Nat)
 | [], _ => none
 | x :: r, T => bif Nat.beq x.1 T then some x.2 else tyOf r T
def zEq : Value -> Value -> Bool
 | .int k n, .int k' n' => decide (k = k') && decide (n = n')
 | .bool b, .bool b' => b == b'
 | .string s, .string s' => Nat.beq s.size 0 && Nat.beq s'.size 0
 | .slice none 0 0, .slice none 0 0 => true
 | _, _ => false
def zEqL : List Value -> List Value -> Bool
 | [], [] => true
 | a :: r, b :: s => zEq a b && zEqL r s
 | _, _ => false
theorem Qna {s : ByteArray} (h : s.size = 0) : s = ByteArray.empty := by
 cases s with
 | mk d =>
  have : d = #[] := Array.eq_empty_of_size_eq_zero h
  rw [this]; rfl
theorem Qtw {a b : Value} (h : zEq a b = true) : a = b := by
 unfold zEq at h
 split at h
 ·simp only [Bool.and_eq_true, decide_eq_true_eq] at h; rw [h.1, h.2]
 ·simp only [beq_iff_eq] at h; rw [h]
 ·simp only [Bool.and_eq_true] at h
  rw [Qna (Nat.eq_of_beq_eq_true h.1), Qna (Nat.eq_of_beq_eq_true h.2)]
 ·rfl
 ·cases h
theorem Qjv : ∀ {a b : List Value}, zEqL a b = true -> a = b
 | [], [], _ => rfl
 | a :: r, b :: s, h => by
  simp only [zEqL, Bool.and_eq_true] at h
  rw [Qtw h.1, Qjv h.2]
 | [], _ :: _, h => by cases h
 | _ :: _, [], h => by cases h
def zChk (S : Sh) (z : Value) : Bool :=
 bif S.isPair then (match z with | .agg cs => zEqL cs.toList S.zc | _ => false) else zEqL [z] S.zc
theorem Qtx {S : Sh} {z : Value} (h : zChk S z = true) : VR S z S.zc := by
 unfold zChk at h
 cases hp : S.isPair <;> rw [hp] at h
 ·exact .inr ⟨hp, (Qjv h).symm⟩
 ·simp only [cond_true] at h
  split at h
  ·exact .inl ⟨hp, by rw [<- Qjv h]⟩
  ·cases h
def descChk (X : Ctx) : Sh -> Nat -> TypeDesc -> Bool
 | .int k, _, .int k' => decide (k' = k)
 | .bool, _, .bool => true
 | .str, _, .string => true
 | .sl E e, _, .slice E' => Nat.beq E' E && (match X.ty E with | some (e', _) => decide (e' = e) | none => false)
 | .pair a b, nf, .struct fs => Nat.ble 2 nf && Nat.beq fs.size nf && (List.range nf).all fun j =>
   (match fs[j]?, (Sh.pair a b).sub (fp nf j) with
    | some f, some s => Nat.beq f.offset ((Sh.pair a b).off (fp nf j)) && (match X.ty f.type with | some (s', _) => decide (s' = s) | none => false)
    | _, _ => false)
 | _, _, _ => false
theorem Qpt {X : Ctx} {S : Sh} {nf : Nat} {d : TypeDesc} (h : descChk X S nf d = true) : Desc X S nf d := by
 unfold descChk at h
 split at h
 ·simp only [decide_eq_true_eq] at h; subst h; exact rfl
 ·exact rfl
 ·exact rfl
 ·simp only [Bool.and_eq_true] at h
  have hE := Nat.eq_of_beq_eq_true h.1
  subst hE
  refine ⟨rfl, ?_⟩
  have h2 := h.2
  split at h2
  ·rename_i e' m he; simp only [decide_eq_true_eq] at h2; subst h2; exact ⟨m, he⟩
  ·cases h2
 ·simp only [Bool.and_eq_true, List.all_eq_true, List.mem_range, Nat.ble_eq] at h
  refine ⟨_, rfl, ⟨h.1.1, Nat.eq_of_beq_eq_true h.1.2⟩, fun j hj => ?_⟩
  have hj := h.2 j hj
  split at hj
  ·rename_i f s hf hs
   simp only [Bool.and_eq_true] at hj
   have h2 := hj.2
   split at h2
   ·rename_i s' m he
    simp only [decide_eq_true_eq] at h2; subst h2
    exact ⟨f, s', m, hf, hs, Nat.eq_of_beq_eq_true hj.1, he⟩
   ·cases h2
  ·cases hj
 ·cases h
def eqChk (P : Program) (T : TypeId) (S : Sh) (nf : Nat) : TypeDesc -> Bool
 | .struct fs => bif S.plain then !P.stoodInHeld T && !P.eqGuardType P.depth T && fs.toList.all (fun f => !(f.name == "_")) && Nat.beq fs.toList.length nf else true
 | _ => true
def tyChk1 (P : Program) (X : Ctx) (T : TypeId) (S : Sh) (nf : Nat) : Bool :=
 Nat.blt 0 S.size && Nat.blt S.dep 10000 && (S.isPair || Nat.beq nf 0) &&
 (match P.info? T with
  | some i => Nat.beq i.size S.size && Nat.ble i.bytes 32768 && (match i.zero with | some z => zChk S z | none => false)
  | none => false) &&
 (match P.underlying T with
  | some d => descChk X S nf d && eqChk P T S nf d
  | none => false)
theorem Qrf {P : Program} {X : Ctx} {T : TypeId} {S : Sh} {nf : Nat} (h : tyChk1 P X T S nf = true) : TyOk P X T S nf := by
 unfold tyChk1 at h
 simp only [Bool.and_eq_true] at h
 obtain ⟨⟨⟨⟨h1, h2⟩, h3⟩, h4⟩, h5⟩ := h
 refine ⟨by simpa [Nat.blt_eq] using h1, by simpa [Nat.blt_eq] using h2, fun hp => ?_, ?_, ?_, ?_⟩
 ·rw [hp] at h3
  exact Nat.eq_of_beq_eq_true (by simpa using h3)
 ·split at h4
  ·rename_i i hi
   simp only [Bool.and_eq_true] at h4
   have h6 := h4.2
   split at h6
   ·rename_i z hz
    exact ⟨i, hi, Nat.eq_of_beq_eq_true h4.1.1, Nat.le_of_ble_eq_true h4.1.2, z, hz, Qtx h6⟩
   ·cases h6
  ·cases h4
 ·split at h5
  ·rename_i d hd
   simp only [Bool.and_eq_true] at h5
   exact ⟨d, hd, Qpt h5.1⟩
  ·cases h5
 ·intro fs hfs hpl
  rw [hfs] at h5
  simp only [Bool.and_eq_true] at h5
  have h6 := h5.2
  unfold eqChk at h6
  simp only [hpl, cond_true, Bool.and_eq_true, Bool.not_eq_true', List.all_eq_true] at h6
  exact ⟨h6.1.1.1, h6.1.1.2, h6.1.2, Nat.eq_of_beq_eq_true h6.2⟩
def tyChk (P : Program) (X : Ctx) : List (Nat × Sh × Nat) -> Bool
 | [] => true
 | x :: r => tyChk1 P X x.1 x.2.1 x.2.2 && tyChk P X r
theorem Qnb {T : TypeId} {S : Sh} {nf : Nat} : ∀ {l : List (Nat × Sh × Nat)}, tyOf l T = some (S, nf) -> (T, S, nf) ∈ l
 | [], h => by cases h
 | x :: r, h => by
  simp only [tyOf] at h
  cases hb : Nat.beq x.1 T <;> rw [hb] at h
  ·exact List.mem_cons_of_mem _ (Qnb h)
  ·simp only [cond_true, Option.some.injEq] at h
   have := Nat.eq_of_beq_eq_true hb
   rw [<- this, <- h]; exact List.mem_cons_self
theorem Qly {P : Program} {X : Ctx} : ∀ {l : List (Nat × Sh × Nat)}, tyChk P X l = true -> ∀ x ∈ l, tyChk1 P X x.1 x.2.1 x.2.2 = true
 | y :: r, h, x, hx => by
  simp only [tyChk, Bool.and_eq_true] at h
  rcases List.mem_cons.1 hx with rfl | hx
  ·exact h.1
  ·exact Qly h.2 x hx
def ctx (tys : List (Nat × Sh × Nat)) (n : Nat) (con : FuncId -> List Con) (keep : List Bool -> Keep) (fz : Nat -> List Nat) : Ctx := ⟨n, tyOf tys, con, keep, fz⟩
theorem Qpu {X X' : Ctx} (h : X.ty = X'.ty) {S : Sh} {nf : Nat} {d : TypeDesc} : descChk X S nf d = descChk X' S nf d := by
 unfold descChk; rw [h]
theorem Qnc {P : Program} {X X' : Ctx} (h : X.ty = X'.ty) : ∀ {l : List (Nat × Sh × Nat)}, tyChk P X l = tyChk P X' l
 | [] => rfl
 | x :: r => by
  simp only [tyChk]
  rw [Qnc h]
  congr 1
  unfold tyChk1
  simp only [Qpu h]
theorem tyAll_of {P : Program} {tys : List (Nat × Sh × Nat)} (h : tyChk P (ctx tys 0 (fun _ => []) (fun _ => ⟨[], [], []⟩) fun _ => []) tys = true) (n : Nat) (con : FuncId -> List Con) (keep : List Bool -> Keep) (fz : Nat -> List Nat) : TyAll P (ctx tys n con keep fz) := by
 intro T S nf hT
 have h' : tyChk P (ctx tys n con keep fz) tys = true := Eq.trans (Qnc (X := ctx tys n con keep fz) (X' := ctx tys 0 (fun _ => []) (fun _ => ⟨[], [], []⟩) fun _ => []) rfl) h
 exact Qrf (Qly h' _ (Qnb hT))
def conOf : List (Nat × Con) -> FuncId -> List Con
 | [], _ => []
 | x :: r, f => bif Nat.beq x.1 f then x.2 :: conOf r f else conOf r f
theorem Qh8 {f : FuncId} {c : Con} : ∀ {l : List (Nat × Con)}, c ∈ conOf l f -> (f, c) ∈ l
 | x :: r, h => by
  simp only [conOf] at h
  cases hb : Nat.beq x.1 f <;> rw [hb] at h
  ·exact List.mem_cons_of_mem _ (Qh8 h)
  ·have := Nat.eq_of_beq_eq_true hb
   rcases List.mem_cons.1 h with rfl | h
   ·rw [<- this]; exact List.mem_cons_self
   ·exact List.mem_cons_of_mem _ (Qh8 h)
def ConsOk (P : Program) (l : List (Nat × Con)) : Prop := ∀ x ∈ l, Sound P x.1 x.2
theorem ConsOk.nil {P : Program} : ConsOk P [] := by simp [ConsOk]
theorem ConsOk.cons {P : Program} {f : FuncId} {c : Con} {l : List (Nat × Con)} (h : Sound P f c) (hl : ConsOk P l) : ConsOk P ((f, c) :: l) := fun x hx => by
 rcases List.mem_cons.1 hx with rfl | hx
 ·exact h
 ·exact hl x hx
theorem sound {P : Program} {tys : List (Nat × Sh × Nat)} (hty : tyChk P (ctx tys 0 (fun _ => []) (fun _ => ⟨[], [], []⟩) fun _ => []) tys = true) (hmix : P.follows .mixedOrders = true)
  {f : FuncId} {fn : Func} (hfn : P.funcs[f]? = some fn) (hname : (fn.name == "runtime.NumGoroutine") = false) {c0 : Code} (hb : fn.body = some c0)
  {l : List (Nat × Con)} (hl : ConsOk P l) {n : Nat} {keep : List Bool -> Keep} {fz : Nat -> List Nat} (c : Con)
  (hev : ∀ x, c.pre x = true -> ∃ k, evFn (ctx tys n (conOf l) keep fz) fn c.rs c.ps k x = some (c.fn x)) : Sound P f c :=
 Qsz (tyAll_of hty n (conOf l) keep fz) (fun g d hd => hl (g, d) (Qh8 hd)) hmix hfn hb hname hev
end Go.Vm

set_option linter.unusedVariables false
set_option linter.unusedSimpArgs false
namespace Go.Vm
open Go.WideShapes Go.ChangeShapes
def Wf : (S : Sh) -> S.den -> Prop
 | .int k, x => (Lit.int k x).wf = true
 | .bool, _ => True
 | .str, s => ByteArray.size s <= maxLen
 | .sl _ e, xs => List.length xs <= maxLen /\ ∀ x ∈ xs, Wf e x
 | .pair a b, x => Wf a x.1 /\ Wf b x.2
 | .unit, _ => True
section
variable {P : Program} {X : Ctx} {w : World}
theorem TyOk.cellsOf {T : TypeId} {S : Sh} {nf : Nat} (h : TyOk P X T S nf) : P.cellsOf T = S.size := by
 obtain ⟨i, h1, h2, _⟩ := h.info
 simp [Program.cellsOf, h1, h2]
theorem Qi5 {st : Blks} : ∀ (m : Nat) (S : Sh) (cs : List Value), 1 <= m -> (∀ j, j < m -> ∃ s, S.sub (fp m j) = some s /\ ∃ x, Im w st s x ((cs.drop (S.off (fp m j))).take s.size) /\ Wf s x) -> cs.length = S.size ->
  ∃ x, Im w st S x cs /\ Wf S x
 | 0, _, _, h, _, _ => by omega
 | 1, S, cs, _, h, hl => by
  obtain ⟨s, hs, x, hx, hw⟩ := h 0 (by omega)
  simp only [fp, Qbc, Option.some.injEq] at hs
  subst hs
  simp only [fp, Qba, List.drop_zero] at hx
  rw [List.take_of_length_le (by omega)] at hx
  exact ⟨x, hx, hw⟩
 | m + 2, S, cs, _, h, hl => by
  obtain ⟨s, hs, x, hx, hw⟩ := h 0 (by omega)
  cases S with
  | pair a b =>
   simp only [fp, Sh.sub, Option.some.injEq] at hs
   subst hs
   simp only [fp, Sh.off, List.drop_zero] at hx
   obtain ⟨y, hy, hwy⟩ := Qi5 (m + 1) b (cs.drop a.size) (by omega) (fun j hj => by
    obtain ⟨s, hs, x, hx, hw⟩ := h (j + 1) (by omega)
    simp only [fp, Sh.sub] at hs
    simp only [fp, Sh.off] at hx
    refine ⟨s, hs, x, ?_, hw⟩
    rw [List.drop_drop]; exact hx) (by rw [List.length_drop, hl]; simp [Sh.size])
   exact ⟨(x, y), ⟨_, _, (List.take_append_drop a.size cs).symm, hx, hy⟩, hw, hwy⟩
  | _ => simp [fp, Sh.sub] at hs
theorem Qnd {α β : Type} {f : α -> Option β} : ∀ {l : List α} {r : List β}, l.mapM f = some r -> ∀ (i : Nat) (x : α), l[i]? = some x -> ∃ y, f x = some y /\ r[i]? = some y
 | [], r, h, i, x, hx => by simp at hx
 | a :: l, r, h, i, x, hx => by
  rw [List.mapM_cons] at h
  cases h1 : f a with
  | none => rw [h1] at h; simp at h
  | some b =>
   cases h2 : l.mapM f with
   | none => rw [h1, h2] at h; simp at h
   | some r' =>
    rw [h1, h2] at h
    simp at h
    subst h
    cases i with
    | zero => simp at hx; subst hx; exact ⟨b, h1, rfl⟩
    | succ i =>
     obtain ⟨y, g1, g2⟩ := Qnd h2 i x (by simpa using hx)
     exact ⟨y, g1, by simpa using g2⟩
theorem Qi6 {α β : Type} {f : α -> Option β} : ∀ {l : List α} {r : List β}, l.mapM f = some r -> r.length = l.length
 | [], r, h => by simp at h; subst h; rfl
 | a :: l, r, h => by
  rw [List.mapM_cons] at h
  cases h1 : f a with
  | none => rw [h1] at h; simp at h
  | some b =>
   cases h2 : l.mapM f with
   | none => rw [h1, h2] at h; simp at h
   | some r' =>
    rw [h1, h2] at h
    simp at h
    subst h
    simp [Qi6 h2]
theorem Qrg {base n : Nat} {a : Addr} {cs : List Value} (h : w.cells? base a n = some cs) : cs.length = n /\ ∀ j v, cs[j]? = some v -> w.cell? (a.add j) = some v := by
 unfold World.cells? at h
 split at h
 ·have hl := Qi6 h
  simp at hl
  refine ⟨hl, fun j v hj => ?_⟩
  have hlt := (List.getElem?_eq_some_iff.1 hj).1
  obtain ⟨y, g1, g2⟩ := Qnd h j j (List.getElem?_range (by omega))
  rw [hj] at g2; cases g2; exact g1
 ·cases h
theorem Qpv {a : Addr} {v : Value} (h : w.cell? a = some v) : a.spot = none /\ a.block < w.heap.size := by
 unfold World.cell? at h
 cases hb : w.heap[a.block]? with
 | none => rw [hb] at h; cases h
 | some o =>
  rw [hb] at h
  cases o with
  | cells c t fr =>
   simp only at h
   cases hs : a.spot with
   | none => exact ⟨rfl, (Array.getElem?_eq_some_iff.1 hb).1⟩
   | some s => rw [hs] at h; simp at h
  | _ => cases h
theorem Qi7 {α : Type} {Q : Nat -> α -> Prop} : ∀ (n : Nat), (∀ i, i < n -> ∃ x, Q i x) -> ∃ xs : List α, xs.length = n /\ ∀ i x, xs[i]? = some x -> Q i x
 | 0, _ => ⟨[], rfl, by simp⟩
 | n + 1, h => by
  obtain ⟨xs, h1, h2⟩ := Qi7 n (fun i hi => h i (by omega))
  obtain ⟨x, hx⟩ := h n (by omega)
  refine ⟨xs ++ [x], by simp [h1], fun i y hy => ?_⟩
  by_cases hi : i < xs.length
  ·rw [List.getElem?_append_left hi] at hy
   exact h2 i y hy
  ·rw [List.getElem?_append_right (by omega)] at hy
   have : i - xs.length = 0 := by
    have := (List.getElem?_eq_some_iff.1 hy).1
    simp at this; omega
   rw [this] at hy; simp at hy; subst hy
   have : i = n := by omega
   subst this; exact hx
theorem Qld {H : Type} {enc : TypeId × Value -> H} {base : Nat} {spare : Nat -> Bool} {held : Bool} (hA : TyAll P X) : ∀ (fuel : Nat) {T : TypeId} {S : Sh} {nf : Nat} {cs : List Value} {d : DataW H × List MemPlace}, X.ty T = some (S, nf) ->
  DataW.trod enc P w base spare held fuel T cs = some d -> ∃ x, Im w (fun b => b < w.heap.size) S x cs /\ Wf S x
 | 0, T, S, nf, cs, d, hT, h => by simp [DataW.trod] at h
 | fuel + 1, T, S, nf, cs, d, hT, h => by
  have hTy := hA _ _ _ hT
  obtain ⟨dd, hu, hd⟩ := hTy.und
  cases S with
  | int k =>
   cases hd
   obtain ⟨n, rfl, _, hw⟩ := DataW.trod_int hu h
   exact ⟨n, rfl, hw⟩
  | bool =>
   cases hd
   obtain ⟨b, rfl, _⟩ := DataW.trod_bool hu h
   exact ⟨b, rfl, trivial⟩
  | str =>
   cases hd
   obtain ⟨b, rfl, _, hw⟩ := DataW.trod_string hu h
   exact ⟨b, rfl, hw⟩
  | unit => exact hd.elim
  | sl E e =>
   obtain ⟨rfl, m, hE⟩ := hd
   have hEt := hA _ _ _ hE
   rcases DataW.trod_slice hu h with ⟨rfl, _⟩ | ⟨a, len, cap, elems, rest, n, hf, rfl, _, hb, hlc, hcm, hel, hg, _⟩
   ·exact ⟨[], ⟨none, 0, rfl, Nat.le_refl _, fun h => absurd rfl h⟩, Nat.zero_le _, by simp⟩
   ·cases hf
    have hel : ∀ i, i < len -> ∃ x, Wf e x /\ ∃ cc, Im w (fun b => b < w.heap.size) e x cc /\ ∀ j v, cc[j]? = some v -> w.cell? ((a.add (i * e.size)).add j) = some v := by
     intro i hi
     have g1 := hg i hi
     have hlt : i < elems.length := by omega
     rw [List.getElem?_eq_getElem hlt] at g1
     cases hcs : w.cells? base (a.add (i * P.cellsOf E)) (P.cellsOf E) with
     | none => rw [hcs] at g1; cases g1
     | some cc =>
      rw [hcs] at g1
      obtain ⟨x, q1, q2⟩ := Qld hA fuel hE g1
      rw [hEt.cellsOf] at hcs
      exact ⟨x, q2, cc, q1, (Qrg hcs).2⟩
    obtain ⟨xs, g1, g2⟩ := Qi7 len hel
    refine ⟨xs, ⟨some a, cap, by rw [g1], by rw [g1]; exact hlc, fun hne => ?_⟩, by rw [g1]; exact Nat.le_trans hlc hcm, fun x hx => ?_⟩
    ·have hspot : a.spot = none /\ a.block < w.heap.size := by
      obtain ⟨x, hx⟩ : ∃ x, xs[0]? = some x := by
       cases xs with
       | nil => exact absurd rfl hne
       | cons x xs => exact ⟨x, rfl⟩
      obtain ⟨_, cc, q1, q2⟩ := g2 0 x hx
      have hl := Qbn q1
      have hpos := hEt.pos
      have hlt : 0 < cc.length := by omega
      have := Qpv (q2 0 _ (List.getElem?_eq_getElem hlt))
      have e1 : (a.add (0 * e.size)).add 0 = a := by simp [Addr.add]
      rw [e1] at this
      exact this
     refine ⟨a.block, a.off, ?_, hspot.2, fun i x hx => ?_⟩
     ·cases a; simp only at hspot; rw [hspot.1]
     ·obtain ⟨_, cc, q1, q2⟩ := g2 i x hx
      refine ⟨cc, q1, fun j v hj => ?_⟩
      rw [<- q2 j v hj]
      cases a; simp only at hspot
      obtain ⟨rfl, _⟩ := hspot
      rw [Qcz, Qcz]
    ·obtain ⟨i, hi, hxi⟩ := List.getElem_of_mem hx
     exact (g2 i x (by rw [List.getElem?_eq_getElem hi, hxi])).1
  | pair p q =>
   obtain ⟨fs, rfl, ⟨h2, hfs⟩, hfl⟩ := hd
   obtain ⟨xs, n, hf, _, hlen, hxl, hg⟩ := DataW.trod_struct hu h
   cases hf
   rw [hTy.cellsOf] at hlen
   refine Qi5 nf _ cs (by omega) (fun j hj => ?_) hlen
   obtain ⟨f, s, m, g1, g2, g3, g4⟩ := hfl j hj
   have q1 := hg j f g1
   have hlt : j < xs.length := by omega
   rw [List.getElem?_eq_getElem hlt, (hA _ _ _ g4).cellsOf, g3] at q1
   obtain ⟨x, r1, r2⟩ := Qld hA fuel g4 q1
   exact ⟨s, g2, x, r1, r2⟩
theorem arg_Im {H : Type} {enc : TypeId × Value -> H} {base : Nat} {spare : Nat -> Bool} {held : Bool} {r : Reach} {b0 : Nat} (hA : TyAll P X) {T : TypeId} {S : Sh} {nf : Nat} {v : Value} {d : DataW H} {ps : List MemPlace} (hT : X.ty T = some (S, nf))
  (hval : Value.okWide P w r b0 T v) (h : DataW.Trod enc P w base spare held T v d ps) : ∃ x, (∃ cs, VR S v cs /\ Im w (fun b => b < w.heap.size) S x cs) /\ Wf S x := by
 obtain ⟨fuel, hf⟩ := h
 obtain ⟨x, h1, h2⟩ := Qld hA fuel hT hf
 obtain ⟨dd, hu, hd⟩ := (hA _ _ _ hT).und
 refine ⟨x, ⟨v.cells.toList, ?_, h1⟩, h2⟩
 unfold Value.okWide at hval
 rw [hu] at hval
 cases S with
 | pair p q =>
  obtain ⟨fs, rfl, _⟩ := hd
  obtain ⟨cs, rfl, _⟩ := hval
  exact .inl ⟨rfl, by simp [Value.cells]⟩
 | unit => exact hd.elim
 | int k => cases hd; obtain ⟨n, rfl⟩ := okWide_int (r := r) (w := w) (base := b0) hu (by unfold Value.okWide; rw [hu]; exact hval); exact .inr ⟨rfl, rfl⟩
 | bool => cases hd; obtain ⟨n, rfl⟩ := okWide_bool (r := r) (w := w) (base := b0) hu (by unfold Value.okWide; rw [hu]; exact hval); exact .inr ⟨rfl, rfl⟩
 | str => cases hd; obtain ⟨n, rfl⟩ := okWide_string (r := r) (w := w) (base := b0) hu (by unfold Value.okWide; rw [hu]; exact hval); exact .inr ⟨rfl, rfl⟩
 | sl E e => obtain ⟨rfl, _⟩ := hd; obtain ⟨A, l, c, rfl⟩ := okWide_slice (r := r) (w := w) (base := b0) hu (by unfold Value.okWide; rw [hu]; exact hval); exact .inr ⟨rfl, rfl⟩
end
end Go.Vm

set_option linter.unusedVariables false
set_option linter.unusedSimpArgs false
namespace Go.Vm
open Go.WideShapes Go.ChangeShapes Go.RowKit
def WfIns : (ms : List Mode) -> (insSh ms).den -> Prop
 | [], _ => True
 | m :: ms, x => Wf m.inSh x.1 /\ WfIns ms x.2
open Classical in
noncomputable def lawPre (ms : List Mode) (x : (insSh ms).den) : Bool := decide (WfIns ms x)
theorem Qko {ms : List Mode} {x : (insSh ms).den} : lawPre ms x = true ↔ WfIns ms x := by simp [lawPre]
noncomputable def lawCon (ms : List Mode) (z : (backSh ms).den) : Con := ⟨ms, [(.own, .bool)], lawPre ms, fun _ => (true, z)⟩
theorem argsR_nil {w : World} {st F : Blks} : ArgsR w st [] () [] F := rfl
theorem argsR_cons {w : World} {st : Blks} {S : Sh} {v : Value} {x : S.den} {ms : List Mode} {xs : (insSh ms).den} {vs : List Value} (h : ∃ cs, VR S v cs /\ Im w st S x cs) (hs : ArgsR w st ms xs vs (fun _ => False)) :
  ArgsR w st (.imm S :: ms) (x, xs) (v :: vs) (fun _ => False) :=
 ⟨v, vs, fun _ => False, fun _ => False, rfl, fun _ h _ => h, fun _ h => h, fun _ h => h, h, hs⟩
theorem enter_of {P : Program} {f : FuncId} {fn : Func} {c0 : Code} (hfn : P.funcs[f]? = some fn) (hname : (fn.name == "runtime.NumGoroutine") = false) (hb : fn.body = some c0) (args : Array Value) (w : World) : (callFunc f args).run P w = .ok (.enter f args) w := by
 have hname : ¬ fn.name = "runtime.NumGoroutine" := by simpa using hname
 simp [callFunc, hfn, hname, hb]
theorem law_calls {P : Program} {f : FuncId} {ms : List Mode} {z : (backSh ms).den} (hS : Sound P f (lawCon ms z)) (hE : ∀ (args : Array Value) (w : World), (callFunc f args).run P w = .ok (.enter f args) w) {W : World} {vals : List Value} {x : (insSh ms).den} (hx : WfIns ms x)
  (hargs : ArgsR W (fun b => b < W.heap.size) ms x vals (fun _ => False)) : Calls P f vals.toArray W fun e W' => e = .returned (.bool true) /\ Below W.heap.size W W' := by
 have hm := hS W (fun b => b < W.heap.size) vals x (fun _ => False) (fun b hb => ⟨hb, fun h => h⟩) (fun _ h => h.elim) (Qko.2 hx) hargs
 have hc := hm.resolve_right fun ⟨v, w', h1, _⟩ => by rw [hE] at h1; cases h1
 refine hc.2.mono ?_
 rintro e W' ⟨us, st', G, rfl, hp⟩
 obtain ⟨u, r, F1, F2, cs, h1, _, _, _, h2, h3, h4, _⟩ := hp.res
 have h3 : cs = [.bool true] := h3
 have h4 : r = [] := h4
 subst h1 h3 h4
 refine ⟨?_, hp.os, hp.tape, hp.output, hp.size, fun k hk => hp.keep k hk (fun h => h)⟩
 rcases h2 with ⟨h, _⟩ | ⟨_, h⟩
 ·cases h
 ·simp only [List.cons.injEq, and_true] at h
  rw [<- h]; rfl
end Go.Vm

set_option linter.unusedVariables false
namespace Go.Vm
def keepOf : List (List Bool × Keep) -> List Bool -> Keep
 | [], _ => ⟨[], [], []⟩
 | x :: r, p => bif x.1 == p then x.2 else keepOf r p
def fzOf : List (Nat × List Nat) -> Nat -> List Nat
 | [], _ => []
 | x :: r, i => bif Nat.beq x.1 i then x.2 else fzOf r i
def w64 (x : Int) : Int := IntKind.wrap IntKind.i64 x
def subStr (s : ByteArray) (l h : Int) : ByteArray := ByteArray.extract s l.toNat h.toNat
def fitL {α : Type} (a b : List α) : Bool := decide (a.length + b.length <= BIG)
def fitS (a b : ByteArray) : Bool := decide (a.size + b.size <= BIG)
theorem Qaz {α : Type} {a b : List α} (h : a.length + b.length <= 4294967296) : fitL a b = true := decide_eq_true h
theorem Qak {x : Int} (h1 : -9223372036854775808 <= x) (h2 : x <= 9223372036854775807) : w64 x = x := by unfold w64; rw [IntKind.wrap_i64]; omega
end Go.Vm

set_option linter.unusedVariables false
namespace Go.Vm
def cl {α β : Type} (b : Bool) (v : α) (k : α -> Option β) : Option β := bif b then k v else none
def lt {α β : Type} (v : α) (k : α -> β) : β := k v
theorem lt_eq {α β : Type} {v : α} {k : α -> β} : lt v k = k v := rfl
theorem cl_eq {α β : Type} {b : Bool} {v : α} {k : α -> Option β} (h : b = true) : cl b v k = k v := by unfold cl; rw [h]; rfl
def Gets {β : Type} (o : Option β) (P : β -> Prop) : Prop := ∃ v, o = some v /\ P v
theorem Qah {α β : Type} {b : Bool} {v : α} {k : α -> Option β} {P : β -> Prop} (h : b = true) (h2 : Gets (k v) P) : Gets (cl b v k) P := by rw [cl_eq h]; exact h2
theorem Qbr {α β : Type} {v : α} {k : α -> Option β} {P : β -> Prop} (h : Gets (k v) P) : Gets (lt v k) P := h
theorem Qab {β : Type} {c : Bool} {a : Option β} {P : β -> Prop} (h : c = true) (h2 : Gets a P) : Gets (bif c then a else none) P := by rw [h]; exact h2
theorem Qae {β : Type} {c : Bool} {a b : Option β} {P : β -> Prop} (h : c = true -> Gets a P) (h2 : c = false -> Gets b P) : Gets (bif c then a else b) P := by
 cases hc : c
 ·exact h2 hc
 ·exact h hc
theorem Qac {β : Type} {v : β} {P : β -> Prop} (h : P v) : Gets (some v) P := ⟨v, rfl, h⟩
theorem Qax {X Y : Type} (E : Nat -> X -> Option Y) (pre : X -> Bool) (Post : X -> Y -> Prop) (d : Y)
  (h : ∀ x, pre x = true -> ∃ k, Gets (E k x) (Post x)) : ∃ fn : X -> Y, ∀ x, pre x = true -> (∃ k, E k x = some (fn x)) /\ Post x (fn x) := by
 refine ⟨fun x => (Classical.epsilon (h := ⟨d⟩) fun v => (∃ k, E k x = some v) /\ Post x v), fun x hx => ?_⟩
 obtain ⟨k, v, h1, h2⟩ := h x hx
 have := Classical.epsilon_spec (p := fun v => (∃ k, E k x = some v) /\ Post x v) ⟨v, ⟨k, h1⟩, h2⟩
 exact this
end Go.Vm

set_option linter.unusedVariables false
namespace Go.Vm
theorem sound_indexByte {P : Program} {f : FuncId} {fn : Func} (hf : P.funcs[f]? = some fn) (hname : (fn.name == "runtime.NumGoroutine") = false) (hb : fn.body.isNone = true) (hn : Extern.findNext fn = none)
  (he : Extern.find fn = some Extern.BytealgIndexByte.indexByte) : Sound P f ⟨[.imm .str, .imm (.int .u8)], [(.imm, .int .i64)], fun _ => true, fun x => (Lib.indexByte x.1.data.toList x.2.1.toNat.toUInt8, ())⟩ := by
 intro w st vals x L hst hL _ hargs
 obtain ⟨v1, r1, _, _, rfl, _, _, _, ⟨cs1, hv1, hi1⟩, h2⟩ := hargs
 obtain ⟨v2, r2, _, _, rfl, _, _, _, ⟨cs2, hv2, hi2⟩, h3⟩ := h2
 have h3 : r2 = [] := h3
 have hi1 : cs1 = [.string x.1] := hi1
 have hi2 : cs2 = [.int .u8 x.2.1] := hi2
 subst h3 hi1 hi2
 have e1 : v1 = .string x.1 := by
  rcases hv1 with ⟨h, _⟩ | ⟨_, h⟩
  ·cases h
  ·simp only [List.cons.injEq, and_true] at h
   exact h.symm
 have e2 : v2 = .int .u8 x.2.1 := by
  rcases hv2 with ⟨h, _⟩ | ⟨_, h⟩
  ·cases h
  ·simp only [List.cons.injEq, and_true] at h
   exact h.symm
 subst e1 e2
 refine .inr ⟨.int .i64 (Lib.indexByte x.1.data.toList x.2.1.toNat.toUInt8), w, ?_, [.int .i64 (Lib.indexByte x.1.data.toList x.2.1.toNat.toUInt8)], st, fun _ => False, rfl, ?_⟩
 ·rw [run_callFunc_extern hf hname hb hn he]
  have := Lib.run_indexByteString (P := P) x.1 x.2.1 w
  rw [show ([Value.string x.1, Value.int .u8 x.2.1].toArray) = #[.string x.1, .int .u8 x.2.1] from rfl, this]; rfl
 ·exact ⟨rfl, rfl, rfl, Nat.le_refl _, fun _ _ _ => rfl, fun _ h => h, fun _ h => .inl h, fun b hb => (hst b hb).1, fun _ h => h.elim, fun _ h => h.elim,
   ⟨_, [], [.int .i64 (Lib.indexByte x.1.data.toList x.2.1.toNat.toUInt8)], rfl, .inr ⟨rfl, rfl⟩, rfl, rfl, ⟨_, _, fun _ => False, fun _ => False, rfl, fun _ h _ => h, fun _ h => h, fun _ h => h, (fun z hz => by cases hz), ⟨_, _, fun _ => False, fun _ => False, rfl, fun _ h _ => h, fun _ h => h, fun _ h => h, (fun z hz => by cases hz), trivial⟩⟩⟩⟩
end Go.Vm
