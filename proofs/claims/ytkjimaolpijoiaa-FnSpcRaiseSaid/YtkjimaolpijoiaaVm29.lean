/- A law's arguments, as they are laid in memory. -/
import Derived.Test.YtkjimaolpijoiaaVm28
import Derived.WalkKit
import Derived.ProofKit
import Derived.OpenShut
import Derived.ShutString
import Derived.ChangeOld
import Derived.Below
import Derived.SizedLaws
set_option linter.unusedVariables false
set_option linter.unusedSimpArgs false
namespace Go.Vm
open Go.WideShapes Go.ChangeShapes

/-- Values as they may be laid: whole numbers within their kinds, lengths within the machine's. -/
def Wf : (S : Sh) → S.den → Prop
  | .int k, x => (Lit.int k x).wf = true
  | .bool, _ => True
  | .str, s => ByteArray.size s ≤ maxLen
  | .sl _ e, xs => List.length xs ≤ maxLen ∧ ∀ x ∈ xs, Wf e x
  | .pair a b, x => Wf a x.1 ∧ Wf b x.2
  | .unit, _ => True

section
variable {P : Program} {X : Ctx} {w : World}

theorem TyOk.cellsOf {T : TypeId} {S : Sh} {nf : Nat} (h : TyOk P X T S nf) : P.cellsOf T = S.size := by
  obtain ⟨i, h1, h2, _⟩ := h.info
  simp [Program.cellsOf, h1, h2]

/-- A struct, field after field. -/
theorem fields_pair {st : Blks} : ∀ (m : Nat) (S : Sh) (cs : List Value), 1 ≤ m → (∀ j, j < m → ∃ s, S.sub (fp m j) = some s ∧ ∃ x, Im w st s x ((cs.drop (S.off (fp m j))).take s.size) ∧ Wf s x) → cs.length = S.size →
    ∃ x, Im w st S x cs ∧ Wf S x
  | 0, _, _, h, _, _ => by omega
  | 1, S, cs, _, h, hl => by
    obtain ⟨s, hs, x, hx, hw⟩ := h 0 (by omega)
    simp only [fp, sub_nil, Option.some.injEq] at hs
    subst hs
    simp only [fp, off_nil, List.drop_zero] at hx
    rw [List.take_of_length_le (by omega)] at hx
    exact ⟨x, hx, hw⟩
  | m + 2, S, cs, _, h, hl => by
    obtain ⟨s, hs, x, hx, hw⟩ := h 0 (by omega)
    cases S with
    | pair a b =>
      simp only [fp, Sh.sub, Option.some.injEq] at hs
      subst hs
      simp only [fp, Sh.off, List.drop_zero] at hx
      obtain ⟨y, hy, hwy⟩ := fields_pair (m + 1) b (cs.drop a.size) (by omega) (fun j hj => by
        obtain ⟨s, hs, x, hx, hw⟩ := h (j + 1) (by omega)
        simp only [fp, Sh.sub] at hs
        simp only [fp, Sh.off] at hx
        refine ⟨s, hs, x, ?_, hw⟩
        rw [List.drop_drop]; exact hx) (by rw [List.length_drop, hl]; simp [Sh.size])
      exact ⟨(x, y), ⟨_, _, (List.take_append_drop a.size cs).symm, hx, hy⟩, hw, hwy⟩
    | _ => simp [fp, Sh.sub] at hs

theorem mapM_get {α β : Type} {f : α → Option β} : ∀ {l : List α} {r : List β}, l.mapM f = some r → ∀ (i : Nat) (x : α), l[i]? = some x → ∃ y, f x = some y ∧ r[i]? = some y
  | [], r, h, i, x, hx => by simp at hx
  | a :: l, r, h, i, x, hx => by
    rw [List.mapM_cons] at h
    cases h1 : f a with
    | none => rw [h1] at h; simp at h
    | some b =>
      cases h2 : l.mapM f with
      | none => rw [h1, h2] at h; simp at h
      | some r' =>
        rw [h1, h2] at h
        simp at h
        subst h
        cases i with
        | zero => simp at hx; subst hx; exact ⟨b, h1, rfl⟩
        | succ i =>
          obtain ⟨y, g1, g2⟩ := mapM_get h2 i x (by simpa using hx)
          exact ⟨y, g1, by simpa using g2⟩

theorem mapM_length {α β : Type} {f : α → Option β} : ∀ {l : List α} {r : List β}, l.mapM f = some r → r.length = l.length
  | [], r, h => by simp at h; subst h; rfl
  | a :: l, r, h => by
    rw [List.mapM_cons] at h
    cases h1 : f a with
    | none => rw [h1] at h; simp at h
    | some b =>
      cases h2 : l.mapM f with
      | none => rw [h1, h2] at h; simp at h
      | some r' =>
        rw [h1, h2] at h
        simp at h
        subst h
        simp [mapM_length h2]

theorem cells_get {base n : Nat} {a : Addr} {cs : List Value} (h : w.cells? base a n = some cs) : cs.length = n ∧ ∀ j v, cs[j]? = some v → w.cell? (a.add j) = some v := by
  unfold World.cells? at h
  split at h
  · have hl := mapM_length h
    simp at hl
    refine ⟨hl, fun j v hj => ?_⟩
    have hlt := (List.getElem?_eq_some_iff.1 hj).1
    obtain ⟨y, g1, g2⟩ := mapM_get h j j (List.getElem?_range (by omega))
    rw [hj] at g2; cases g2; exact g1
  · cases h

theorem cell_plain {a : Addr} {v : Value} (h : w.cell? a = some v) : a.spot = none ∧ a.block < w.heap.size := by
  unfold World.cell? at h
  cases hb : w.heap[a.block]? with
  | none => rw [hb] at h; cases h
  | some o =>
    rw [hb] at h
    cases o with
    | cells c t fr =>
      simp only at h
      cases hs : a.spot with
      | none => exact ⟨rfl, (Array.getElem?_eq_some_iff.1 hb).1⟩
      | some s => rw [hs] at h; simp at h
    | _ => cases h

/-- A list of values, one by one. -/
theorem choose_list {α : Type} {Q : Nat → α → Prop} : ∀ (n : Nat), (∀ i, i < n → ∃ x, Q i x) → ∃ xs : List α, xs.length = n ∧ ∀ i x, xs[i]? = some x → Q i x
  | 0, _ => ⟨[], rfl, by simp⟩
  | n + 1, h => by
    obtain ⟨xs, h1, h2⟩ := choose_list n (fun i hi => h i (by omega))
    obtain ⟨x, hx⟩ := h n (by omega)
    refine ⟨xs ++ [x], by simp [h1], fun i y hy => ?_⟩
    by_cases hi : i < xs.length
    · rw [List.getElem?_append_left hi] at hy
      exact h2 i y hy
    · rw [List.getElem?_append_right (by omega)] at hy
      have : i - xs.length = 0 := by
        have := (List.getElem?_eq_some_iff.1 hy).1
        simp at this; omega
      rw [this] at hy; simp at hy; subst hy
      have : i = n := by omega
      subst this; exact hx

theorem trod_Im {H : Type} {enc : TypeId × Value → H} {base : Nat} {spare : Nat → Bool} {held : Bool} (hA : TyAll P X) : ∀ (fuel : Nat) {T : TypeId} {S : Sh} {nf : Nat} {cs : List Value} {d : DataW H × List MemPlace}, X.ty T = some (S, nf) →
    DataW.trod enc P w base spare held fuel T cs = some d → ∃ x, Im w (fun b => b < w.heap.size) S x cs ∧ Wf S x
  | 0, T, S, nf, cs, d, hT, h => by simp [DataW.trod] at h
  | fuel + 1, T, S, nf, cs, d, hT, h => by
    have hTy := hA _ _ _ hT
    obtain ⟨dd, hu, hd⟩ := hTy.und
    cases S with
    | int k =>
      cases hd
      obtain ⟨n, rfl, _, hw⟩ := DataW.trod_int hu h
      exact ⟨n, rfl, hw⟩
    | bool =>
      cases hd
      obtain ⟨b, rfl, _⟩ := DataW.trod_bool hu h
      exact ⟨b, rfl, trivial⟩
    | str =>
      cases hd
      obtain ⟨b, rfl, _, hw⟩ := DataW.trod_string hu h
      exact ⟨b, rfl, hw⟩
    | unit => exact hd.elim
    | sl E e =>
      obtain ⟨rfl, m, hE⟩ := hd
      have hEt := hA _ _ _ hE
      rcases DataW.trod_slice hu h with ⟨rfl, _⟩ | ⟨a, len, cap, elems, rest, n, hf, rfl, _, hb, hlc, hcm, hel, hg, _⟩
      · exact ⟨[], ⟨none, 0, rfl, Nat.le_refl _, fun h => absurd rfl h⟩, Nat.zero_le _, by simp⟩
      · cases hf
        have hel : ∀ i, i < len → ∃ x, Wf e x ∧ ∃ cc, Im w (fun b => b < w.heap.size) e x cc ∧ ∀ j v, cc[j]? = some v → w.cell? ((a.add (i * e.size)).add j) = some v := by
          intro i hi
          have g1 := hg i hi
          have hlt : i < elems.length := by omega
          rw [List.getElem?_eq_getElem hlt] at g1
          cases hcs : w.cells? base (a.add (i * P.cellsOf E)) (P.cellsOf E) with
          | none => rw [hcs] at g1; cases g1
          | some cc =>
            rw [hcs] at g1
            obtain ⟨x, q1, q2⟩ := trod_Im hA fuel hE g1
            rw [hEt.cellsOf] at hcs
            exact ⟨x, q2, cc, q1, (cells_get hcs).2⟩
        obtain ⟨xs, g1, g2⟩ := choose_list len hel
        refine ⟨xs, ⟨some a, cap, by rw [g1], by rw [g1]; exact hlc, fun hne => ?_⟩, by rw [g1]; exact Nat.le_trans hlc hcm, fun x hx => ?_⟩
        · have hspot : a.spot = none ∧ a.block < w.heap.size := by
            obtain ⟨x, hx⟩ : ∃ x, xs[0]? = some x := by
              cases xs with
              | nil => exact absurd rfl hne
              | cons x xs => exact ⟨x, rfl⟩
            obtain ⟨_, cc, q1, q2⟩ := g2 0 x hx
            have hl := Im_len q1
            have hpos := hEt.pos
            have hlt : 0 < cc.length := by omega
            have := cell_plain (q2 0 _ (List.getElem?_eq_getElem hlt))
            have e1 : (a.add (0 * e.size)).add 0 = a := by simp [Addr.add]
            rw [e1] at this
            exact this
          refine ⟨a.block, a.off, ?_, hspot.2, fun i x hx => ?_⟩
          · cases a; simp only at hspot; rw [hspot.1]
          · obtain ⟨_, cc, q1, q2⟩ := g2 i x hx
            refine ⟨cc, q1, fun j v hj => ?_⟩
            rw [← q2 j v hj]
            cases a; simp only at hspot
            obtain ⟨rfl, _⟩ := hspot
            rw [add_at, add_at]
        · obtain ⟨i, hi, hxi⟩ := List.getElem_of_mem hx
          exact (g2 i x (by rw [List.getElem?_eq_getElem hi, hxi])).1
    | pair p q =>
      obtain ⟨fs, rfl, ⟨h2, hfs⟩, hfl⟩ := hd
      obtain ⟨xs, n, hf, _, hlen, hxl, hg⟩ := DataW.trod_struct hu h
      cases hf
      rw [hTy.cellsOf] at hlen
      refine fields_pair nf _ cs (by omega) (fun j hj => ?_) hlen
      obtain ⟨f, s, m, g1, g2, g3, g4⟩ := hfl j hj
      have q1 := hg j f g1
      have hlt : j < xs.length := by omega
      rw [List.getElem?_eq_getElem hlt, (hA _ _ _ g4).cellsOf, g3] at q1
      obtain ⟨x, r1, r2⟩ := trod_Im hA fuel g4 q1
      exact ⟨s, g2, x, r1, r2⟩

/-- An argument. -/
theorem arg_Im {H : Type} {enc : TypeId × Value → H} {base : Nat} {spare : Nat → Bool} {held : Bool} {r : Reach} {b0 : Nat} (hA : TyAll P X) {T : TypeId} {S : Sh} {nf : Nat} {v : Value} {d : DataW H} {ps : List MemPlace} (hT : X.ty T = some (S, nf))
    (hval : Value.okWide P w r b0 T v) (h : DataW.Trod enc P w base spare held T v d ps) : ∃ x, (∃ cs, VR S v cs ∧ Im w (fun b => b < w.heap.size) S x cs) ∧ Wf S x := by
  obtain ⟨fuel, hf⟩ := h
  obtain ⟨x, h1, h2⟩ := trod_Im hA fuel hT hf
  obtain ⟨dd, hu, hd⟩ := (hA _ _ _ hT).und
  refine ⟨x, ⟨v.cells.toList, ?_, h1⟩, h2⟩
  unfold Value.okWide at hval
  rw [hu] at hval
  cases S with
  | pair p q =>
    obtain ⟨fs, rfl, _⟩ := hd
    obtain ⟨cs, rfl, _⟩ := hval
    exact .inl ⟨rfl, by simp [Value.cells]⟩
  | unit => exact hd.elim
  | int k => cases hd; obtain ⟨n, rfl⟩ := okWide_int (r := r) (w := w) (base := b0) hu (by unfold Value.okWide; rw [hu]; exact hval); exact .inr ⟨rfl, rfl⟩
  | bool => cases hd; obtain ⟨n, rfl⟩ := okWide_bool (r := r) (w := w) (base := b0) hu (by unfold Value.okWide; rw [hu]; exact hval); exact .inr ⟨rfl, rfl⟩
  | str => cases hd; obtain ⟨n, rfl⟩ := okWide_string (r := r) (w := w) (base := b0) hu (by unfold Value.okWide; rw [hu]; exact hval); exact .inr ⟨rfl, rfl⟩
  | sl E e => obtain ⟨rfl, _⟩ := hd; obtain ⟨A, l, c, rfl⟩ := okWide_slice (r := r) (w := w) (base := b0) hu (by unfold Value.okWide; rw [hu]; exact hval); exact .inr ⟨rfl, rfl⟩

end
end Go.Vm
