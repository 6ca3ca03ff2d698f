/- Calls: a callee that keeps a contract. -/
import Derived.Test.YtkjimaolpijoiaaVm16
set_option linter.unusedVariables false
set_option linter.unusedSimpArgs false
namespace Go.Vm

section
variable {P : Program} {X : Ctx} {w : World} {st : Blks} {ρ : Nat → Value} {φ : Nat → Blks} {n : Nat} {a : Act} {s : St} {o : Oper} {hp : Nat → Ob}

theorem RT_of_all {O : Nat → Ob} : ∀ {vs : List AV} {us : List Value}, All2 (RV1 w st ρ O) vs us → RT w st ρ O (tupAV vs) us
  | [], _, .nil => rfl
  | _ :: _, _, .cons h1 h2 => ⟨_, _, rfl, h1, RT_of_all h2⟩

theorem RV_ret {O : Nat → Ob} {vs : List AV} {us : List Value} (h : All2 (RV1 w st ρ O) vs us) (ht : ∀ av ∈ vs, av.isTup = false) : RV w st ρ O (resultAV vs) (retV us) := by
  cases h with
  | nil => exact .inl ⟨rfl, [].toArray, rfl, rfl⟩
  | @cons x y xs ys h1 h2 =>
    cases h2 with
    | nil => exact .inr ⟨ht x (by simp), h1⟩
    | @cons x' y' xs' ys' h3 h4 =>
      refine .inl ⟨rfl, _, rfl, ?_⟩
      exact RT_of_all (.cons h1 (.cons h3 h4))

theorem ids_tup : ∀ {vs : List AV} {id : Nat}, id ∈ (tupAV vs).ids → ∃ av ∈ vs, id ∈ av.ids
  | [], id, h => by simp [tupAV, AV.ids] at h
  | v :: vs, id, h => by
    simp only [tupAV, AV.ids, List.mem_append] at h
    rcases h with h | h
    · exact ⟨v, by simp, h⟩
    · obtain ⟨u, hu, h⟩ := ids_tup h; exact ⟨u, by simp [hu], h⟩

theorem ids_result {vs : List AV} {id : Nat} (h : id ∈ (resultAV vs).ids) : ∃ av ∈ vs, id ∈ av.ids := by
  match vs, h with
  | [], h => exact ids_tup h
  | [v], h => exact ⟨v, by simp, h⟩
  | v :: u :: r, h => exact ids_tup h

theorem newOk_mem {l : List Nat} : ∀ {up : List (Nat × Ob)} {q : Nat × Ob}, newOk s l up = true → q ∈ up → (s.hp q.1 = .none → q.1 % 10000 < 5000) ∧ (s.hp q.1 ≠ .none → q.1 ∈ l)
  | u :: r, q, h, hq => by
    have h1 : (bif (s.hp u.1).isNone then Nat.blt (u.1 % 10000) 5000 else mem u.1 l) = true ∧ newOk s l r = true := by
      simpa only [newOk, Bool.and_eq_true] using h
    rcases List.mem_cons.1 hq with e | hq
    · rw [e]
      have h2 := h1.1
      constructor
      · intro hn
        rw [hn] at h2
        simpa [Ob.isNone, Nat.blt_eq] using h2
      · intro hn
        have hi : (s.hp u.1).isNone = false := by
          cases hx : (s.hp u.1).isNone
          · rfl
          · exact absurd (isNone_iff.1 hx) hn
        rw [hi] at h2
        exact mem_iff.1 h2
    · exact newOk_mem h1.2 hq

theorem mapA_id {o : Ob} : o.mapA (fun v => v) = o := by cases o <;> rfl

theorem scrub_mapA {D : List Nat} {id : Nat} (h : (s.scrub D).hp id ≠ .none) : ∃ f, (s.scrub D).hp id = (s.hp id).mapA f := by
  cases D with
  | nil => exact ⟨_, mapA_id.symm⟩
  | cons x D =>
    have h' : (bif mem id (x :: D) then Ob.none else (s.hp id).mapA (AV.scrub (x :: D))) ≠ .none := h
    cases hm : mem id (x :: D)
    · exact ⟨AV.scrub (x :: D), by show (bif mem id (x :: D) then Ob.none else _) = _; rw [hm]; rfl⟩
    · rw [hm] at h'; exact absurd rfl h'

theorem killN_mapA (D : List Nat) (id : Nat) : ∃ f, (s.killN D).hp id = (s.hp id).mapA f := by
  cases D with
  | nil => exact ⟨_, mapA_id.symm⟩
  | cons x D => exact ⟨AV.killN (x :: D), rfl⟩

theorem Tn_mapA {f : AV → AV} {x y : Ob} (h : Tn x y) : Tn (x.mapA f) y := by cases x <;> cases y <;> exact h

theorem Tn_live {x y : Ob} (h : Tn x y) : x ≠ .none := by cases x <;> first | exact h.elim | simp

theorem Tn_compat {w' : World} {x y : Ob} {r r' : Value} (h : Tn x y) (hr : r' = r) : Compat w w' x y r r' false := by
  refine ⟨hr, ?_, fun e => by cases e⟩
  cases x <;> cases y <;> first | exact h | exact h.elim

theorem nkOf_box {hp : Nat → Ob} {id : Nat} : ∀ {l : List Nat}, id ∈ l → id ∉ nkOf hp l → ∃ S v, hp id = .box S v
  | x :: r, h, hn => by
    simp only [nkOf] at hn
    rcases List.mem_cons.1 h with rfl | h
    · cases hq : hp id with
      | box S v => exact ⟨S, v, rfl⟩
      | _ => rw [hq] at hn; simp at hn
    · refine nkOf_box h (fun h' => hn ?_)
      cases hp x <;> first | exact h' | exact List.mem_cons_of_mem _ h'

theorem Tn_compat_box {w' : World} {S : Sh} {v : AV} {y : Ob} {r r' : Value} {f g : AV → AV} {nested : Bool} (h : Tn (.box S v) y) (hr : r' = r) : Compat w w' (((Ob.box S v).mapA g).mapA f) y r r' nested := by
  cases y with
  | box S' v' => exact ⟨hr, h, fun _ i p b o hp => by obtain ⟨_, _, _, _, _, _, hh, _⟩ := hp; cases hh⟩
  | _ => exact h.elim

theorem call_wp {con : Con} {g : FuncId} (hS : Sound P g con) (h : Sim w st ρ φ X.n a s) (hd : dstOk X o.dst = true) {l : List Nat} {d : Nat} {as : List AV} {vals : List Value} {r : Res} (hr : callBy (restr s.hp l) d con as = some r) (hc : r.c = true)
    (hnew : newOk s l r.up = true) (hnd : (r.up.map (·.1)).Nodup) (hv : All2 (ArgV w st ρ s.hp) as vals) :
    Calls P g vals.toArray w fun e w' => ∃ v st' ρ' φ', e = .returned v ∧ Sim w' st' ρ' φ' X.n (a.put o.dst v) (s.app o.dst r) ∧ Fr w w' st st' ρ ρ' φ φ' s (s.app o.dst r) := by
  have hle := Le_restr s.hp l
  unfold callBy at hr
  cases hg : gather (restr s.hp l) con.ps as with
  | none => rw [hg] at hr; cases hr
  | some p =>
  obtain ⟨x, dr, wr, rd⟩ := p
  rw [hg] at hr; simp only at hr
  cases hcond : (nodup wr && disj wr rd && (!(immRes con.rs || immBack con.ps) || onlyC (restr s.hp l) rd)) <;> rw [hcond] at hr
  · cases hr
  simp only [cond_true] at hr
  simp only [Bool.and_eq_true, nodup_iff, disj_iff] at hcond
  obtain ⟨⟨hwn, hwr⟩, himm⟩ := hcond
  cases hres : resAV con.rs con.ps (con.fn x) (d + 10000) with
  | mk vs p =>
  obtain ⟨nl, k, y⟩ := p
  rw [hres] at hr; simp only at hr
  cases hbk : backAV (restr s.hp l) con.ps as y k with
  | none => rw [hbk] at hr; cases hr
  | some p =>
  obtain ⟨t, nw⟩ := p
  rw [hbk] at hr; simp only at hr
  cases han : allNone (restr s.hp l) (nl ++ nw) <;> rw [han] at hr
  · cases hr
  simp only [cond_true, Option.some.injEq] at hr
  subst hr
  simp only at hc hnew hnd
  obtain ⟨L, l1, l2, l3, l4, l5⟩ := gather_ok h hle hg hwn hv (st1 := fun b => st b ∨ ∃ id ∈ rd, φ id b) (fun b hb => hb)
  have hLs : ∀ b, L b → b < w.heap.size ∧ ¬ st b := fun b hb => by
    obtain ⟨j, _, hb⟩ := l1 b hb; exact h.lt j b hb
  refine (hS.2 w _ vals x L (fun b hb => ⟨?_, fun hL => ?_⟩) (fun b hb => (hLs b hb).1) hc l2).mono ?_
  · rcases hb with hb | ⟨j, hj, hb⟩
    · exact h.stlt b hb
    · exact (h.lt j b hb).1
  · obtain ⟨i, hi, hib⟩ := l1 b hL
    rcases hb with hb | ⟨j, hj, hb⟩
    · exact (h.lt i b hib).2 hb
    · have := h.dj i j b hib hb; subst this
      exact hwr i hi hj
  rintro e w' ⟨us, st1, G, rfl, hp⟩
  -- the memory read alone behind
  obtain ⟨st2, q1, q2, q3, q4, q5⟩ : ∃ st2 : Blks, (∀ b, st b → st2 b) ∧ (∀ b, st2 b → st b ∨ L b ∨ w.heap.size ≤ b) ∧ (∀ b, G b → ¬ st2 b) ∧ (∀ b, st2 b → b < w'.heap.size) ∧ ResR w' st2 con.rs con.ps (con.fn x) us vals G := by
    cases hf : (immRes con.rs || immBack con.ps)
    · simp only [Bool.or_eq_false_iff] at hf
      refine ⟨st, fun _ h => h, fun _ h => .inl h, fun b hb hst => ?_, fun b hb => Nat.lt_of_lt_of_le (h.stlt b hb) hp.size, ResR_flat hf.1 hf.2 hp.res⟩
      rcases hp.g1 b hb with hL | hge
      · exact (hLs b hL).2 hst
      · have := h.stlt b hst; omega
    · rw [hf] at himm
      have himm : onlyC (restr s.hp l) rd = true := by simpa using himm
      refine ⟨st1, fun b hb => hp.st1 b (.inl hb), fun b hb => ?_, fun b hb => (hp.g2 b hb).2, hp.stlt, hp.res⟩
      rcases hp.st2 b hb with (hb | ⟨j, hj, hb⟩) | hb
      · exact .inl hb
      · exfalso
        have := List.all_eq_true.1 himm j hj
        cases hq : restr s.hp l j with
        | cbox S x =>
          have hO := hle.get hq (by simp)
          have hob := h.ob j
          rw [hO] at hob
          obtain ⟨_, _, _, _, _, _, _, _, hno⟩ := hob
          exact hno b hb
        | _ => rw [hq] at this; cases this
      · exact .inr hb
  have hnd2 := List.nodup_append.1 (by rw [← List.map_append]; exact hnd : (nl.map (·.1) ++ (t ++ nw).map (·.1)).Nodup)
  obtain ⟨G1, G2, ρ1, φ1, r1, r2, r3, r4, r5, r6, r7⟩ := res_ok q5 hres hnd2.1
  have hGL : ∀ b, G b → (∃ id ∈ wr, φ id b) → L b := fun b hb ⟨j, _, hj⟩ => (hp.g1 b hb).elim id (fun hge => by have := (h.lt j b hj).1; omega)
  have hsame : ∀ b, (∃ id ∈ wr, φ id b) → ¬ L b → w'.heap[b]? = w.heap[b]? := fun b ⟨j, _, hj⟩ hn => hp.keep b (h.lt j b hj).1 hn
  obtain ⟨m1, m2, ρ2, φ2, m3, m4⟩ := l5 w' st2 y k t nw G2 hbk r4 hsame (fun b hb hb' => hGL b (r3 b hb) hb') hnd2.2.1
  have hkd : ∀ id, id ∈ nl.map (·.1) → id ∉ (t ++ nw).map (·.1) := fun id h1 h2 => hnd2.2.2 id h1 id h2 rfl
  obtain ⟨ρL, φL, hlay, hRV, hturn⟩ : ∃ ρL φL, Lay w' st2 (fun b => G b ∨ ((∃ id ∈ wr, φ id b) ∧ ¬ L b)) (nl ++ (t ++ nw)) ρL φL ∧
      (∀ (ρ : Nat → Value) (O : Nat → Ob), (∀ id ∈ (nl ++ (t ++ nw)).map (·.1), ρ id = ρL id) → (∀ q ∈ nl ++ (t ++ nw), O q.1 = q.2) → All2 (RV1 w' st2 ρ O) vs us) ∧ ∀ q ∈ t, ρL q.1 = ρ q.1 := by
    refine ⟨_, _, Lay.both r5 m3 ?_ ?_ ?_ hkd, fun ρ' O g1 g2 => r7 ρ' O (fun id hid => ?_) (fun q hq => g2 q (by simp [hq])), fun q hq => ?_⟩
    · rintro b hb (hb' | ⟨hb', hn⟩)
      · exact r1 b hb hb'
      · exact hn (hGL b (r2 b hb) hb')
    · exact fun b hb => .inl (r2 b hb)
    · rintro b (hb | hb)
      · exact .inl (r3 b hb)
      · exact .inr hb
    · rw [g1 id (by rw [List.map_append, List.mem_append]; exact .inl hid), mem_iff.2 hid]; rfl
    · have hm : q.1 ∈ (t ++ nw).map (·.1) := List.mem_map.2 ⟨q, by simp [hq], rfl⟩
      rw [mem_false.2 (fun h => hkd q.1 h hm)]; exact m4 q hq
  have hfresh : ∀ q, q ∈ nl ++ nw → s.hp q.1 = .none := fun q hq => by
    have h1 := List.all_eq_true.1 han q hq
    have h2 := (newOk_mem hnew (q := q) (by simp only [List.mem_append] at hq ⊢; rcases hq with hq | hq <;> simp [hq])).2
    cases hi : s.hp q.1 with
    | none => rfl
    | _ =>
      have hm := h2 (by rw [hi]; simp)
      unfold restr at h1
      rw [mem_iff.2 hm, hi] at h1
      cases h1
  have hup : ∀ q, q ∈ nl ++ (t ++ nw) → s.hp q.1 ≠ .none → q ∈ t := fun q hq hne => by
    simp only [List.mem_append] at hq
    rcases hq with hq | hq | hq
    · exact absurd (hfresh q (by simp [hq])) hne
    · exact hq
    · exact absurd (hfresh q (by simp [hq])) hne
  have hwrk : ∀ id ∈ wr, id ∈ dr ∨ id ∈ (nl ++ (t ++ nw)).map (·.1) := fun id hid => (m1 id hid).imp (fun h => h) (fun h => by
    simp only [List.map_append, List.mem_append]; exact .inr (.inl h))
  have hFst : ∀ b, (G b ∨ ((∃ id ∈ wr, φ id b) ∧ ¬ L b)) → b < w'.heap.size ∧ ¬ st2 b := by
    rintro b (hb | ⟨⟨j, hj, hb⟩, hn⟩)
    · exact ⟨(hp.g2 b hb).1, q3 b hb⟩
    · refine ⟨Nat.lt_of_lt_of_le (h.lt j b hb).1 hp.size, fun h2 => ?_⟩
      rcases q2 b h2 with h2 | h2 | h2
      · exact (h.lt j b hb).2 h2
      · exact hn h2
      · have := (h.lt j b hb).1; omega
  -- a block of another object
  have hoth : ∀ id b, id ∉ (nl ++ (t ++ nw)).map (·.1) → φ id b → id ∉ dr → ¬ L b := fun id b hk hb hdr hL => by
    obtain ⟨j, hj, hjb⟩ := l1 b hL
    have := h.dj id j b hb hjb; subst this
    exact (hwrk id hj).elim hdr hk
  have hs1 := (h.scrub dr).killN (nkOf (restr s.hp l) wr)
  have hlive1 : ∀ id, ((s.scrub dr).killN (nkOf (restr s.hp l) wr)).hp id ≠ .none → s.hp id ≠ .none := fun id hid => (scrub_live (killN_live hid)).1
  have hupd : ∀ q ∈ nl ++ (t ++ nw), updL ((s.scrub dr).killN (nkOf (restr s.hp l) wr)).hp (nl ++ (t ++ nw)) q.1 = q.2 := fun q hq => updL_mem _ _ hnd hq
  have hm := Sim.upd (up := nl ++ (t ++ nw)) (w' := w') (st' := st2) (ρ' := fun id => bif mem id ((nl ++ (t ++ nw)).map (·.1)) then ρL id else ρ id)
    (φ' := fun id b => (id ∈ (nl ++ (t ++ nw)).map (·.1) ∧ φL id b) ∨ (id ∉ (nl ++ (t ++ nw)).map (·.1) ∧ φ id b ∧ id ∉ dr)) hs1 hnd q1
    (fun b hb => hp.keep b (h.stlt b hb) (fun hL => (hLs b hL).2 hb))
    (fun id hid => ⟨by simp only [mem_false.2 hid, cond_false], by
      funext b
      exact propext ⟨fun hb => hb.elim (fun h => absurd h.1 hid) (fun h => h.2), fun hb => .inr ⟨hid, hb⟩⟩, fun b hb => hp.keep b (h.lt id b hb.1).1 (hoth id b hid hb.1 hb.2)⟩)
    hlay.nn
    (fun q hq => by
      have hqm : q.1 ∈ (nl ++ (t ++ nw)).map (·.1) := List.mem_map.2 ⟨q, hq, rfl⟩
      refine ObR_phi (hlay.ob _ _ (fun id hid => by simp only [mem_iff.2 hid, cond_true]) hupd q hq) (fun b => ⟨fun hb => ?_, fun hb => .inl ⟨hqm, hb⟩⟩)
      rcases hb with ⟨_, hb⟩ | ⟨hn, _⟩
      · exact hb
      · exact absurd hqm hn)
    (fun id => !mem id (nkOf (restr s.hp l) wr))
    (fun q hq hne => by
      have hqt := hup q hq (hlive1 _ hne)
      obtain ⟨w1, w2⟩ := m2 q hqt
      have hqm : q.1 ∈ (nl ++ (t ++ nw)).map (·.1) := List.mem_map.2 ⟨q, hq, rfl⟩
      obtain ⟨f1, e1⟩ := killN_mapA (s := s.scrub dr) (nkOf (restr s.hp l) wr) q.1
      obtain ⟨f2, e2⟩ := scrub_mapA (killN_live hne)
      rw [e1, e2]
      cases hnk : mem q.1 (nkOf (restr s.hp l) wr)
      · obtain ⟨S, v, hbx⟩ := nkOf_box w1 (mem_false.1 hnk)
        rw [hle.get hbx (by simp)] at w2 ⊢
        refine Tn_compat_box w2 ?_
        simp only [mem_iff.2 hqm, cond_true]
        exact hturn q hqt
      · refine Tn_compat (Tn_mapA (Tn_mapA w2)) ?_
        simp only [mem_iff.2 hqm, cond_true]
        exact hturn q hqt)
    (fun q hq hf => by
      have hf : (!mem q.1 (nkOf (restr s.hp l) wr)) = false := hf
      have : q.1 ∈ nkOf (restr s.hp l) wr := by
        cases hmm : mem q.1 (nkOf (restr s.hp l) wr)
        · rw [hmm] at hf; cases hf
        · exact mem_iff.1 hmm
      exact killN_nests this)
    (fun id b hb => by
      rcases hb with ⟨_, hb⟩ | ⟨hk, hb, hdr⟩
      · exact hFst b (hlay.sup id b hb).1
      · refine ⟨Nat.lt_of_lt_of_le (h.lt id b hb).1 hp.size, fun h2 => ?_⟩
        rcases q2 b h2 with h2 | h2 | h2
        · exact (h.lt id b hb).2 h2
        · exact hoth id b hk hb hdr h2
        · have := (h.lt id b hb).1; omega)
    (fun i j b hi hj => by
      have key : ∀ i j, (i ∈ (nl ++ (t ++ nw)).map (·.1) ∧ φL i b) → (j ∉ (nl ++ (t ++ nw)).map (·.1) ∧ φ j b ∧ j ∉ dr) → False := by
        rintro i j ⟨_, hi⟩ ⟨hk, hj, hdr⟩
        rcases (hlay.sup i b hi).1 with hG | ⟨⟨m, hm, hmb⟩, _⟩
        · rcases hp.g1 b hG with hL | hge
          · exact hoth j b hk hj hdr hL
          · have := (h.lt j b hj).1; omega
        · have := h.dj j m b hj hmb; subst this
          exact (hwrk j hm).elim hdr hk
      rcases hi with hi | hi <;> rcases hj with hj | hj
      · exact hlay.dj i j b hi.2 hj.2
      · exact (key i j hi hj).elim
      · exact (key j i hj hi).elim
      · exact h.dj i j b hi.2.1 hj.2.1)
    q4
    (fun q hq id hid => by
      obtain ⟨q', hq', e⟩ := List.mem_map.1 (hlay.ids q hq id hid)
      rw [← e, hupd q' hq']
      exact hlay.nn q' hq')
  refine ⟨_, _, _, _, rfl, hm.put o.dst (retV us) (resultAV vs) (fun q hq => ?_) ?_ ?_, ?_⟩
  · rw [hq] at hd; simpa [dstOk, Nat.blt_eq] using hd
  · exact RV_ret (hRV _ _ (fun id hid => by simp only [mem_iff.2 hid, cond_true]) hupd) (fun av hav => (r6 av hav).1)
  · intro id hid
    obtain ⟨av, hav, hid⟩ := ids_result hid
    obtain ⟨q, hq, e⟩ := List.mem_map.1 ((r6 av hav).2 id hid)
    have hq' : q ∈ nl ++ (t ++ nw) := by simp [hq]
    show updL _ _ id ≠ _
    rw [← e, hupd q hq']
    exact hlay.nn q hq'
  · refine ⟨hp.os, hp.tape, hp.output, hp.size, fun b hb hn => hp.keep b hb (fun hL => ?_), q1, fun b hb => ?_, fun id b hb => ?_, fun id hp5 hn => ?_⟩
    · obtain ⟨j, _, hj⟩ := l1 b hL; exact hn j hj
    · rcases q2 b hb with hb | hb | hb
      · exact .inl hb
      · obtain ⟨j, _, hj⟩ := l1 b hb; exact .inr (.inl ⟨j, hj⟩)
      · exact .inr (.inr hb)
    · rcases hb with ⟨_, hb⟩ | ⟨_, hb, _⟩
      · rcases (hlay.sup id b hb).1 with hG | ⟨⟨m, hm, hmb⟩, _⟩
        · rcases hp.g1 b hG with hL | hge
          · obtain ⟨j, _, hj⟩ := l1 b hL; exact .inl ⟨j, hj⟩
          · exact .inr hge
        · exact .inl ⟨m, hmb⟩
      · exact .inl ⟨id, hb⟩
    · have hn' : updL ((s.scrub dr).killN (nkOf (restr s.hp l) wr)).hp (nl ++ (t ++ nw)) id ≠ .none := by
        have : (s.app o.dst ⟨con.pre x, resultAV vs, nl ++ (t ++ nw), dr, nkOf (restr s.hp l) wr⟩).hp id = updL ((s.scrub dr).killN (nkOf (restr s.hp l) wr)).hp (nl ++ (t ++ nw)) id := by cases o.dst <;> rfl
        rw [← this]; exact hn
      rcases updL_cases (nl ++ (t ++ nw)) ((s.scrub dr).killN (nkOf (restr s.hp l) wr)).hp id hnd with ⟨hk, e⟩ | ⟨v, hv, e⟩
      · rw [e] at hn'
        exact ⟨hlive1 id hn', by simp only [mem_false.2 hk, cond_false]⟩
      · by_cases hlv : s.hp id = .none
        · have := (newOk_mem hnew hv).1 hlv
          have : id % 10000 < 5000 := this
          omega
        · have hqt := hup (id, v) hv hlv
          have hqm : id ∈ (nl ++ (t ++ nw)).map (·.1) := List.mem_map.2 ⟨_, hv, rfl⟩
          exact ⟨hlv, by simp only [mem_iff.2 hqm, cond_true]; exact hturn _ hqt⟩

end
end Go.Vm
