/- Loops' heads: the state behind. -/
import Derived.Test.YtkjimaolpijoiaaVm22
set_option linter.unusedVariables false
set_option linter.unusedSimpArgs false
namespace Go.Vm

theorem updL_in {α : Type} {t : Nat} : ∀ (l : List (Nat × α)) (f : Nat → α), updL f l t = f t ∨ ∃ v, (t, v) ∈ l ∧ updL f l t = v
  | [], f => .inl rfl
  | x :: l, f => by
    rcases updL_in l (Go.Vm.upd f x.1 x.2) with h | ⟨v, h1, h2⟩
    · by_cases hx : t = x.1
      · right
        refine ⟨x.2, ?_, ?_⟩
        · rw [hx]; simp
        · rw [updL, h, hx, upd_same]
      · left
        rw [updL, h, upd_ne _ _ hx]
    · exact .inr ⟨v, by simp [h1], h2⟩

section
variable {X : Ctx} {w : World} {a : Act} {s s' : St} {w0 : World} {st0 : Blks} {ρ0 : Nat → Value} {φ0 : Nat → Blks} {s0 : St}

theorem Inv.mask (hI : Inv X w0 st0 ρ0 φ0 s0 a w s) {K : Keep} (hm : mask X K s = some s') : Inv X w0 st0 ρ0 φ0 s0 a w s' := by
  obtain ⟨st, ρ, φ, h, hfr⟩ := hI
  unfold Go.Vm.mask at hm
  cases hS : maskSlots s K.slots with
  | none => rw [hS] at hm; simp at hm
  | some ma =>
  cases hB : maskBoxes s K.boxes with
  | none => rw [hS, hB] at hm; simp at hm
  | some mb =>
  cases hL : maskArrs s K.arrs with
  | none => rw [hS, hB, hL] at hm; simp at hm
  | some L =>
  rw [hS, hB, hL] at hm; simp only at hm
  cases hok : maskOk X K ma mb L <;> rw [hok] at hm
  · cases hm
  simp only [cond_true, Option.some.injEq] at hm
  unfold maskOk at hok
  simp only [Bool.and_eq_true, nodup_iff, disj_iff, subl_iff, List.all_eq_true, Nat.blt_eq, Bool.or_eq_true, mem_iff] at hok
  obtain ⟨⟨⟨⟨⟨⟨hn, hmv⟩, hfd⟩, henv⟩, hups⟩, hnew⟩, has⟩ := hok
  have hst : ∀ b, st b → (fun b => st b ∨ ∃ id ∈ ma.fr ++ mb.fr, φ id b) b := fun b hb => .inl hb
  rw [List.map_append, List.map_append] at hn
  have hn1 := List.nodup_append.1 hn
  have hn2 := List.nodup_append.1 hn1.2.1
  have hv1 := List.nodup_append.1 hmv
  have hv2 := List.nodup_append.1 hv1.2.1
  obtain ⟨a1, ρa, φa, a2, a3⟩ := slots_ok (kp := K.arrs ++ K.boxes.map (·.1)) h hst hS hn2.2.1 hv2.2.1 (fun id hid => has id (by simp [hid])) (fun id hid b hb => .inr ⟨id, by simp [hid], hb⟩)
  obtain ⟨b1, b2, ρb, φb, b3, b4⟩ := boxes_ok (kp := K.arrs ++ K.boxes.map (·.1)) h hst hB hn2.1 hv2.1 (fun id hid => has id (by simp [hid])) (fun id hid b hb => .inr ⟨id, by simp [hid], hb⟩)
  obtain ⟨c1, c2⟩ := arrs_ok h hst hL
  have hboxkey : ∀ id ∈ K.boxes.map (·.1), id ∈ mb.up.map (·.1) := fun id hid => by
    obtain ⟨_, o, q1, _⟩ := b2 id hid; exact List.mem_map.2 ⟨_, q1, rfl⟩
  have harr : ∀ id ∈ K.arrs, ∃ T e xs, s.hp id = .arr T e xs := fun id hid => by
    rw [← c1] at hid
    obtain ⟨q, hq, rfl⟩ := List.mem_map.1 hid
    obtain ⟨g1, T, e, xs, g2⟩ := c2 q hq
    exact ⟨T, e, xs, by rw [← g1, g2]⟩
  have hbx : ∀ id ∈ K.boxes.map (·.1), ∀ T e xs, s.hp id ≠ .arr T e xs := fun id hid T e xs hh => by
    rcases (b2 id hid).1 with ⟨_, _, h2⟩ | ⟨_, _, h2⟩ <;> rw [hh] at h2 <;> cases h2
  -- the layouts
  have hLay : LayK w (fun b => st b ∨ ∃ id ∈ ma.fr ++ mb.fr, φ id b) (fun b => ∃ id ∈ K.arrs, φ id b) L ρ (fun j b => j ∈ K.arrs ∧ φ j b) (KeptR w s ρ (K.arrs ++ K.boxes.map (·.1))) := by
    refine ⟨fun id b hb => ⟨⟨id, hb⟩, by rw [c1]; exact hb.1⟩, fun i j b hi hj => h.dj i j b hi.2 hj.2, fun q hq => ?_, fun ρ' O' g1 g2 _ q hq => ?_⟩
    · obtain ⟨_, T, e, xs, g2⟩ := c2 q hq
      rw [g2]; simp
    · obtain ⟨q1, T, e, xs, q2⟩ := c2 q hq
      have hqk : q.1 ∈ L.map (·.1) := List.mem_map.2 ⟨q, hq, rfl⟩
      have hob := h.ob q.1
      rw [← q1, q2] at hob
      rw [q2]
      show Ow w (.sl T e) xs [ρ' q.1] _
      rw [g1 q.1 hqk]
      exact Ow_up (fun b hb => ⟨by rw [← c1]; exact hqk, hb⟩) hob
  have hk2 : ∀ id, id ∈ mb.up.map (·.1) → id ∉ ma.up.map (·.1) := fun id h1 h2 => hn2.2.2 id h1 id h2 rfl
  have hlay2 := LayK.both (F := fun b => ∃ id, (id ∈ K.boxes.map (·.1) ∨ id ∈ mb.mv ++ ma.mv) ∧ φ id b) b3 a2 (by
      rintro b hb ⟨j, hj, hjb⟩
      rcases hb with ⟨i, hi, hib⟩ | ⟨i, hi, hib⟩
      · have := h.dj i j b hib hjb; subst this
        obtain ⟨T, e, xs, hh⟩ := a1 i (by simp [hj])
        exact hbx i hi T e xs hh
      · have := h.dj i j b hib hjb; subst this
        exact hv2.2.2 i hi i hj rfl) (by
      rintro b (⟨i, hi, hib⟩ | ⟨i, hi, hib⟩)
      · exact ⟨i, .inl hi, hib⟩
      · exact ⟨i, .inr (by simp [hi]), hib⟩) (by
      rintro b ⟨i, hi, hib⟩
      exact ⟨i, .inr (by simp [hi]), hib⟩) hk2
  have hk1 : ∀ id, id ∈ L.map (·.1) → id ∉ (mb.up ++ ma.up).map (·.1) := fun id h1 h2 => by
    rw [List.map_append] at h2
    exact hn1.2.2 id h1 id h2 rfl
  have hlay1 := LayK.both (F := fun b => ∃ id, (id ∈ K.arrs ∨ id ∈ K.boxes.map (·.1) ∨ id ∈ mb.mv ++ ma.mv) ∧ φ id b) hLay hlay2 (by
      rintro b ⟨i, hi, hib⟩ ⟨j, hj, hjb⟩
      have := h.dj i j b hib hjb; subst this
      rcases hj with hj | hj
      · obtain ⟨T, e, xs, hh⟩ := harr i hi
        exact hbx i hj T e xs hh
      · exact hv1.2.2 i hi i hj rfl) (by
      rintro b ⟨i, hi, hib⟩; exact ⟨i, .inl hi, hib⟩) (by
      rintro b ⟨i, hi, hib⟩; exact ⟨i, .inr hi, hib⟩) hk1
  have hnall : ((L ++ (mb.up ++ ma.up)).map (·.1)).Nodup := by rw [List.map_append, List.map_append]; exact hn
  obtain ⟨ρ1, φ1, hlay, hρa, hρb, hρs⟩ : ∃ ρ1 φ1, LayK w (fun b => st b ∨ ∃ id ∈ ma.fr ++ mb.fr, φ id b) (fun b => ∃ id, (id ∈ K.arrs ∨ id ∈ K.boxes.map (·.1) ∨ id ∈ mb.mv ++ ma.mv) ∧ φ id b) (L ++ (mb.up ++ ma.up)) ρ1 φ1 (KeptR w s ρ (K.arrs ++ K.boxes.map (·.1))) ∧
      (∀ id ∈ K.arrs, ρ1 id = ρ id) ∧ (∀ id ∈ K.boxes.map (·.1), ρ1 id = ρ id) ∧ ∀ id ∈ ma.up.map (·.1), ρ1 id = ρa id := by
    refine ⟨_, _, hlay1, fun id hid => ?_, fun id hid => ?_, fun id hid => ?_⟩
    · rw [mem_iff.2 (by rw [c1]; exact hid)]; rfl
    · have h1 := hboxkey id hid
      have h2 : id ∉ L.map (·.1) := fun hh => hk1 id hh (by rw [List.map_append, List.mem_append]; exact .inl h1)
      rw [mem_false.2 h2, mem_iff.2 h1]
      exact b4 id hid
    · have h2 : id ∉ L.map (·.1) := fun hh => hk1 id hh (by rw [List.map_append, List.mem_append]; exact .inr hid)
      have h3 : id ∉ mb.up.map (·.1) := fun hh => hk2 id hh hid
      rw [mem_false.2 h2, mem_false.2 h3]; rfl
  have hO : ∀ q ∈ L ++ (mb.up ++ ma.up), updL (fun _ => Ob.none) (L ++ (mb.up ++ ma.up)) q.1 = q.2 := fun q hq => updL_mem _ _ hnall hq
  have hkept : KeptR w s ρ (K.arrs ++ K.boxes.map (·.1)) ρ1 (updL (fun _ => Ob.none) (L ++ (mb.up ++ ma.up))) := by
    intro id hid
    rcases List.mem_append.1 hid with hid | hid
    · obtain ⟨q, hq, hqe⟩ := List.mem_map.1 (by rw [c1]; exact hid : id ∈ L.map (·.1))
      have e1 := hO q (by simp [hq])
      rw [hqe] at e1
      rw [e1, (c2 q hq).1, hqe]
      obtain ⟨T, e, xs, hh⟩ := harr id hid
      exact h.compat (by rw [hh]; simp) (hρa id hid) (fun _ _ => rfl) _
    · obtain ⟨_, o, q1, q2⟩ := b2 id hid
      have e1 := hO (id, o) (by simp [q1])
      have e1 : updL (fun _ => Ob.none) (L ++ (mb.up ++ ma.up)) id = o := e1
      rw [e1, hρb id hid]
      exact q2
  have hsz : ∀ id b, φ1 id b → b < w.heap.size ∧ ¬ (st b ∨ ∃ id ∈ ma.fr ++ mb.fr, φ id b) := fun id b hb => by
    obtain ⟨⟨j, hj, hjb⟩, _⟩ := hlay.sup id b hb
    refine ⟨(h.lt j b hjb).1, ?_⟩
    rintro (hs | ⟨i, hi, hib⟩)
    · exact (h.lt j b hjb).2 hs
    · have := h.dj i j b hib hjb; subst this
      rcases hj with hj | hj | hj
      · exact hfd i hi (by simp [hj])
      · rcases List.mem_append.1 hi with hi | hi
        · obtain ⟨T, e, xs, hh⟩ := a1 i (by simp [hi]); exact hbx i hj T e xs hh
        · obtain ⟨T, e, xs, hh⟩ := b1 i (by simp [hi]); exact hbx i hj T e xs hh
      · exact hfd i hi (by simp only [List.mem_append] at hj ⊢; exact .inr hj)
  have hlv : ∀ id ∈ (L ++ (mb.up ++ ma.up)).map (·.1), updL (fun _ => Ob.none) (L ++ (mb.up ++ ma.up)) id ≠ .none := fun id hid => by
    obtain ⟨q, hq, rfl⟩ := List.mem_map.1 hid
    rw [hO q hq]; exact hlay.nn q hq
  subst hm
  refine ⟨_, ρ1, φ1, ⟨h.nt, h.df, fun t ht => ?_, fun t => ?_, fun id => ?_, hsz, hlay.dj, fun t id hid => ?_, fun k id hid => ?_, ?_⟩, hfr.os, hfr.tape, hfr.output, hfr.size, hfr.keep, fun b hb => .inl (hfr.st1 b hb), ?_, ?_, ?_⟩
  · refine updL_not _ _ (fun hm => ?_)
    obtain ⟨q, hq, rfl⟩ := List.mem_map.1 hm
    have := (henv q hq).1
    omega
  · show RV _ _ _ _ (updL (fun _ => AV.unk) ma.env t) _
    rcases updL_in (t := t) ma.env (fun _ => AV.unk) with he | ⟨v, hv, he⟩
    · rw [he]; exact RV_unk _
    · rw [he]
      exact a3 ρ1 _ hρs (fun q hq => hO q (by simp [hq])) hkept (t, v) hv
  · show ObR _ _ _ _ _ _ (updL (fun _ => Ob.none) (L ++ (mb.up ++ ma.up)) id)
    rcases updL_cases (L ++ (mb.up ++ ma.up)) (fun _ => Ob.none) id hnall with ⟨hk, he⟩ | ⟨v, hv, he⟩
    · rw [he]
      exact fun b hb => hk (hlay.sup id b hb).2
    · rw [he]
      exact hlay.ob ρ1 _ (fun _ _ => rfl) hO hkept (id, v) hv
  · have hid : id ∈ (updL (fun _ => AV.unk) ma.env t).ids := hid
    rcases updL_in (t := t) ma.env (fun _ => AV.unk) with he | ⟨v, hv, he⟩
    · rw [he] at hid; cases hid
    · rw [he] at hid
      exact hlv id ((henv (t, v) hv).2 id hid)
  · have hid : id ∈ (updL (fun _ => Ob.none) (L ++ (mb.up ++ ma.up)) k).ids := hid
    rcases updL_cases (L ++ (mb.up ++ ma.up)) (fun _ => Ob.none) k hnall with ⟨hk, he⟩ | ⟨v, hv, he⟩
    · rw [he] at hid; cases hid
    · rw [he] at hid
      exact hlv id (hups (k, v) hv id hid)
  · rintro b (hb | ⟨i, _, hib⟩)
    · exact h.stlt b hb
    · exact (h.lt i b hib).1
  · rintro b (hb | ⟨i, _, hib⟩)
    · exact hfr.st2 b hb
    · exact .inr (hfr.ow i b hib)
  · intro id b hb
    obtain ⟨⟨j, _, hjb⟩, _⟩ := hlay.sup id b hb
    exact hfr.ow j b hjb
  · intro id hp5 hne
    have hne : updL (fun _ => Ob.none) (L ++ (mb.up ++ ma.up)) id ≠ .none := hne
    rcases updL_cases (L ++ (mb.up ++ ma.up)) (fun _ => Ob.none) id hnall with ⟨hk, he⟩ | ⟨v, hv, he⟩
    · exact absurd he hne
    · rcases List.mem_append.1 hv with hvL | hvU
      · have hid : id ∈ K.arrs := by rw [← c1]; exact List.mem_map.2 ⟨_, hvL, rfl⟩
        obtain ⟨T, e, xs, hh⟩ := harr id hid
        have := hfr.pid id hp5 (by rw [hh]; simp)
        exact ⟨this.1, by rw [hρa id hid]; exact this.2⟩
      · have hid : id ∈ K.boxes.map (·.1) := (hnew (id, v) hvU).resolve_left (fun hlt => by
          have : id % 10000 < 5000 := hlt
          omega)
        have hne2 : s.hp id ≠ .none := by
          rcases (b2 id hid).1 with ⟨_, _, h2⟩ | ⟨_, _, h2⟩ <;> rw [h2] <;> simp
        have := hfr.pid id hp5 hne2
        exact ⟨this.1, by rw [hρb id hid]; exact this.2⟩

end
end Go.Vm
