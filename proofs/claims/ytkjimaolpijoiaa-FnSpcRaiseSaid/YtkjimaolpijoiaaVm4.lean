/- What the machine's helper functions tell of memory. -/
import Derived.Test.YtkjimaolpijoiaaVm3
set_option linter.unusedVariables false
set_option linter.unusedSimpArgs false
namespace Go.Vm

/-- A value of a shape, and its cells. -/
def VR (S : Sh) (v : Value) (cs : List Value) : Prop := (S.isPair = true ∧ v = .agg cs.toArray) ∨ (S.isPair = false ∧ cs = [v])

def Le (h1 h2 : Nat → Ob) : Prop := ∀ id, h1 id ≠ .none → h2 id = h1 id

theorem Le_restr (hp : Nat → Ob) (l : List Nat) : Le (restr hp l) hp := by
  intro id h
  unfold restr at *
  cases hm : mem id l <;> rw [hm] at h <;> simp_all

theorem Le.get {h1 h2 : Nat → Ob} (h : Le h1 h2) {id : Nat} {o : Ob} (e : h1 id = o) (hn : o ≠ .none) : h2 id = o := by
  rw [h id (by rw [e]; exact hn), e]

theorem mkPair_RC {w : World} {st : Blks} {ρ : Nat → Value} {O : Nat → Ob} {a b : AV} {c1 c2 : List Value}
    (h1 : RC w st ρ O a c1) (h2 : RC w st ρ O b c2) : RC w st ρ O (mkPair a b) (c1 ++ c2) := by
  unfold mkPair
  split
  · exact ⟨c1, c2, rfl, h1, h2⟩
  · exact ⟨c1, c2, rfl, h1, h2⟩

theorem mkPair_Fit {O : Nat → Ob} {S T : Sh} {a b : AV} (h1 : Fit O S a) (h2 : Fit O T b) : Fit O (.pair S T) (mkPair a b) := by
  unfold mkPair
  split
  · rename_i s x t y
    have e1 : s = S := by cases S <;> exact h1
    have e2 : t = T := by cases T <;> exact h2
    subst e1; subst e2; rfl
  · exact ⟨h1, h2⟩

theorem mkPair_ids {a b : AV} {id : Nat} : id ∈ (mkPair a b).ids → id ∈ a.ids ∨ id ∈ b.ids := by
  unfold mkPair
  split
  · simp [AV.ids]
  · simp [AV.ids]

theorem Fit_val {O : Nat → Ob} {S s : Sh} {x : s.den} : Fit O S (.val s x) ↔ s = S := by cases S <;> exact Iff.rfl

theorem Fit_inv {O : Nat → Ob} {S : Sh} {v : AV} (h : Fit O S v) : (∃ x, v = .val S x) ∨ (∃ a b u u', S = .pair a b ∧ v = .pair u u' ∧ Fit O a u ∧ Fit O b u') ∨
    (∃ T e, S = .sl T e ∧ (v = .nilv T e ∨ (∃ id xs, v = .sref id none [] ∧ O id = .arr T e xs) ∨ v = .unk)) := by
  cases v with
  | val s x => have := Fit_val.1 h; subst this; exact .inl ⟨x, rfl⟩
  | pair u u' => cases S <;> first | exact h.elim | exact .inr (.inl ⟨_, _, _, _, rfl, rfl, h.1, h.2⟩)
  | nilv T e => cases S <;> first | exact h.elim | (obtain ⟨rfl, rfl⟩ := h; exact .inr (.inr ⟨_, _, rfl, .inl rfl⟩))
  | sref id ix p => cases S <;> first | exact h.elim | (obtain ⟨xs, rfl, rfl, h⟩ := h; exact .inr (.inr ⟨_, _, rfl, .inr (.inl ⟨id, xs, rfl, h⟩)⟩))
  | unk => cases S <;> first | exact h.elim | exact .inr (.inr ⟨_, _, rfl, .inr (.inr rfl)⟩)
  | _ => cases S <;> exact h.elim

theorem Fit_agg {O : Nat → Ob} {S : Sh} {v : AV} (h : Fit O S v) (hu : v ≠ .unk) : v.agg = S.isPair := by
  rcases Fit_inv h with ⟨x, rfl⟩ | ⟨a, b, u, u', rfl, rfl, _⟩ | ⟨T, e, rfl, rfl | ⟨id, xs, rfl, _⟩ | rfl⟩
  · cases S <;> rfl
  · rfl
  · rfl
  · rfl
  · exact absurd rfl hu

theorem Fit_tup {O : Nat → Ob} {S : Sh} {v : AV} (h : Fit O S v) : v.isTup = false := by
  rcases Fit_inv h with ⟨x, rfl⟩ | ⟨a, b, u, u', rfl, rfl, _⟩ | ⟨T, e, rfl, rfl | ⟨id, xs, rfl, _⟩ | rfl⟩ <;> rfl

section
variable {w : World} {st : Blks} {ρ : Nat → Value} {φ : Nat → Blks} {O : Nat → Ob}

theorem RV1_of_RC {S : Sh} {av : AV} {v : Value} {cs : List Value} (hf : Fit O S av) (h : RC w st ρ O av cs) (hv : VR S v cs) : RV1 w st ρ O av v := by
  by_cases hu : av = .unk
  · exact .inl hu
  · have ha := Fit_agg hf hu
    rcases hv with ⟨hp, e⟩ | ⟨hp, e⟩
    · exact .inr (.inl ⟨by rw [ha, hp], _, e, by simpa using h⟩)
    · exact .inr (.inr ⟨by rw [ha, hp], by rw [← e]; exact h⟩)

theorem RV_of_RC {S : Sh} {av : AV} {v : Value} {cs : List Value} (hf : Fit O S av) (h : RC w st ρ O av cs) (hv : VR S v cs) : RV w st ρ O av v :=
  .inr ⟨Fit_tup hf, RV1_of_RC hf h hv⟩

theorem RC_of_RV1 {S : Sh} {av : AV} {v : Value} (hf : Fit O S av) (hu : av ≠ .unk) (h : RV1 w st ρ O av v) : ∃ cs, VR S v cs ∧ RC w st ρ O av cs := by
  have ha := Fit_agg hf hu
  rcases h with h | ⟨h1, cs, e, h⟩ | ⟨h1, h⟩
  · exact absurd h hu
  · exact ⟨cs.toList, .inl ⟨by rw [← ha, h1], by simp [e]⟩, h⟩
  · exact ⟨[v], .inr ⟨by rw [← ha, h1], rfl⟩, h⟩

theorem RC_of_RV {S : Sh} {av : AV} {v : Value} (hf : Fit O S av) (hu : av ≠ .unk) (h : RV w st ρ O av v) : ∃ cs, VR S v cs ∧ RC w st ρ O av cs := by
  rcases h with ⟨ht, _⟩ | ⟨_, h⟩
  · rw [Fit_tup hf] at ht; cases ht
  · exact RC_of_RV1 hf hu h

theorem VR_cells {S : Sh} {v : Value} {cs : List Value} (h : VR S v cs) (ho : Ones cs) : v.cells.toList = cs := by
  rcases h with ⟨_, rfl⟩ | ⟨_, rfl⟩
  · rfl
  · have := ho v (by simp)
    cases v <;> simp_all [Value.cells, Value.oneCell']

theorem RV_val {S : Sh} {x : S.den} {v : Value} {cs : List Value} (h : Im w st S x cs) (hv : VR S v cs) : RV w st ρ O (.val S x) v :=
  RV_of_RC (S := S) (Fit_val.2 rfl) h hv

theorem Im_of_RV {S : Sh} {x : S.den} {v : Value} (h : RV w st ρ O (.val S x) v) : ∃ cs, VR S v cs ∧ Im w st S x cs :=
  RC_of_RV (S := S) (Fit_val.2 rfl) (by simp) h

theorem int_of_RV {k : IntKind} {x : Int} {v : Value} (h : RV w st ρ O (.val (.int k) x) v) : v = .int k x := by
  obtain ⟨cs, hv, h⟩ := Im_of_RV h
  cases h
  rcases hv with ⟨h, _⟩ | ⟨_, e⟩
  · cases h
  · cases e; rfl

theorem bool_of_RV {x : Bool} {v : Value} (h : RV w st ρ O (.val .bool x) v) : v = .bool x := by
  obtain ⟨cs, hv, h⟩ := Im_of_RV h
  cases h
  rcases hv with ⟨h, _⟩ | ⟨_, e⟩
  · cases h
  · cases e; rfl

theorem str_of_RV {x : ByteArray} {v : Value} (h : RV w st ρ O (.val .str x) v) : v = .string x := by
  obtain ⟨cs, hv, h⟩ := Im_of_RV h
  cases h
  rcases hv with ⟨h, _⟩ | ⟨_, e⟩
  · cases h
  · cases e; rfl

theorem RV_int (k : IntKind) (x : Int) : RV w st ρ O (.val (.int k) x) (.int k x) := RV_val (S := .int k) rfl (.inr ⟨rfl, rfl⟩)
theorem RV_bool (x : Bool) : RV w st ρ O (.val .bool x) (.bool x) := RV_val (S := .bool) rfl (.inr ⟨rfl, rfl⟩)
theorem RV_str (x : ByteArray) : RV w st ρ O (.val .str x) (.string x) := RV_val (S := .str) rfl (.inr ⟨rfl, rfl⟩)

theorem sl_of_RV {T : TypeId} {e : Sh} {xs : List e.den} {v : Value} (h : RV w st ρ O (.val (.sl T e) xs) v) : Im w st (.sl T e) xs [v] := by
  obtain ⟨cs, hv, h⟩ := Im_of_RV h
  rcases hv with ⟨h, _⟩ | ⟨_, e⟩
  · cases h
  · rw [← e]; exact h

/-- What is no struct and no tuple: its one cell. -/
theorem RC_scalar {av : AV} {v : Value} (h : RV w st ρ O av v) (ht : av.isTup = false) (ha : av.agg = false) (hu : av ≠ .unk) : RC w st ρ O av [v] := by
  rcases h with ⟨h, _⟩ | ⟨_, h⟩
  · rw [h] at ht; cases ht
  · rcases h with h | ⟨h, _⟩ | ⟨_, h⟩
    · exact absurd h hu
    · rw [h] at ha; cases ha
    · exact h

theorem RV_scalar {av : AV} {v : Value} (h : RC w st ρ O av [v]) (ht : av.isTup = false) (ha : av.agg = false) : RV w st ρ O av v :=
  .inr ⟨ht, .inr (.inr ⟨ha, h⟩)⟩

/-! ### Parts of variables -/
theorem RC_len {a : AV} : ∀ {S : Sh} {cs : List Value}, Fit O S a → RC w st ρ O a cs → cs.length = S.size := by
  induction a with
  | val s x => intro S cs hf h; have := Fit_val.1 hf; subst this; exact Im_len h
  | pair u v ihu ihv =>
    intro S cs hf h
    cases S <;> first | exact hf.elim | skip
    obtain ⟨hf1, hf2⟩ := hf
    obtain ⟨c1, c2, e, h1, h2⟩ := h
    rw [e, List.length_append, ihu hf1 h1, ihv hf2 h2]; rfl
  | nilv T e => intro S cs hf h; cases S <;> first | exact hf.elim | (obtain ⟨A, e⟩ := h; rw [e]; rfl)
  | unk => intro S cs hf h; cases S <;> first | exact hf.elim | (obtain ⟨A, e, _⟩ := h; rw [e]; rfl)
  | sref id ix p =>
    intro S cs hf h
    cases S <;> first | exact hf.elim | skip
    obtain ⟨xs, rfl, rfl, _⟩ := hf
    obtain ⟨_, _, e, _⟩ := h
    rw [e]; rfl
  | _ => intro S cs hf h; cases S <;> exact hf.elim

theorem getA_RC : ∀ {p : List Bool} {S s : Sh} {a u : AV} {cs : List Value}, Fit O S a → RC w st ρ O a cs → S.sub p = some s → getA a p = some u →
    Fit O s u ∧ RC w st ρ O u ((cs.drop (S.off p)).take s.size)
  | [], S, s, a, u, cs, hf, h, hs, hg => by
    rw [sub_nil] at hs; cases hs
    have : a = u := by cases a <;> simpa [getA] using hg
    subst this
    refine ⟨hf, ?_⟩
    rw [off_nil, List.drop_zero, List.take_of_length_le (by rw [RC_len hf h]; exact Nat.le_refl _)]; exact h
  | d :: p, S, s, a, u, cs, hf, h, hs, hg => by
    cases a with
    | val t x =>
      have := Fit_val.1 hf; subst this
      cases t with
      | pair ta tb =>
        obtain ⟨c1, c2, e, h1, h2⟩ := h
        cases d with
        | false =>
          simp only [getA] at hg
          have hs' : ta.sub p = some s := by simpa [Sh.sub] using hs
          have := getA_RC (S := ta) (a := .val ta x.1) (Fit_val.2 rfl) (show RC w st ρ O (.val ta x.1) c1 from h1) hs' hg
          rw [e, Sh.off, drop_left (by rw [Im_len h1]; exact sub_size hs')]; exact this
        | true =>
          simp only [getA] at hg
          have hs' : tb.sub p = some s := by simpa [Sh.sub] using hs
          have := getA_RC (S := tb) (a := .val tb x.2) (Fit_val.2 rfl) (show RC w st ρ O (.val tb x.2) c2 from h2) hs' hg
          rw [e, Sh.off, ← Im_len h1, drop_right]; exact this
      | _ => cases d <;> simp [getA] at hg
    | pair u1 u2 =>
      cases S <;> try (exact hf.elim)
      rename_i ta tb
      obtain ⟨hf1, hf2⟩ := hf
      obtain ⟨c1, c2, e, h1, h2⟩ := h
      cases d with
      | false =>
        simp only [getA] at hg
        have hs' : ta.sub p = some s := by simpa [Sh.sub] using hs
        have := getA_RC hf1 h1 hs' hg
        rw [e, Sh.off, drop_left (by rw [RC_len hf1 h1]; exact sub_size hs')]; exact this
      | true =>
        simp only [getA] at hg
        have hs' : tb.sub p = some s := by simpa [Sh.sub] using hs
        have := getA_RC hf2 h2 hs' hg
        rw [e, Sh.off, ← RC_len hf1 h1, drop_right]; exact this
    | _ => cases d <;> simp [getA] at hg

theorem getA_ids : ∀ {p : List Bool} {a u : AV} {id : Nat}, getA a p = some u → id ∈ u.ids → id ∈ a.ids
  | [], a, u, id, hg, h => by
    have : a = u := by cases a <;> simpa [getA] using hg
    subst this; exact h
  | d :: p, a, u, id, hg, h => by
    cases a with
    | val t x =>
      cases t with
      | pair ta tb => cases d <;> simp only [getA] at hg <;> (have := getA_ids hg h; simp [AV.ids] at this)
      | _ => cases d <;> simp [getA] at hg
    | pair u1 u2 =>
      cases d <;> simp only [getA] at hg
      · simp [AV.ids, getA_ids hg h]
      · simp [AV.ids, getA_ids hg h]
    | _ => cases d <;> simp [getA] at hg

/-- The cells with a part turned. -/
def patch (cs : List Value) (o : Nat) (cu : List Value) : List Value := cs.take o ++ cu ++ cs.drop (o + cu.length)

theorem patch_nil (cs cu : List Value) (h : cs.length = cu.length) : patch cs 0 cu = cu := by
  simp [patch, List.drop_of_length_le, h]

theorem patch_left {c1 c2 cu : List Value} {o : Nat} (h : o + cu.length ≤ c1.length) : patch (c1 ++ c2) o cu = patch c1 o cu ++ c2 := by
  unfold patch
  rw [List.take_append_of_le_length (by omega), List.drop_append_of_le_length (by omega)]
  simp

theorem patch_right {c1 c2 cu : List Value} {o : Nat} : patch (c1 ++ c2) (c1.length + o) cu = c1 ++ patch c2 o cu := by
  unfold patch
  rw [List.take_append, List.drop_append]
  simp only [Nat.add_sub_cancel_left, List.take_of_length_le (show c1.length ≤ c1.length + o by omega), List.drop_of_length_le (show c1.length ≤ c1.length + o + cu.length by omega)]
  simp [Nat.add_assoc]

theorem setA_RC : ∀ {p : List Bool} {S s : Sh} {a u b : AV} {cs cu : List Value}, Fit O S a → RC w st ρ O a cs → S.sub p = some s → Fit O s u → RC w st ρ O u cu →
    setA a p u = some b → Fit O S b ∧ RC w st ρ O b (patch cs (S.off p) cu)
  | [], S, s, a, u, b, cs, cu, hf, h, hs, hfu, hu, hg => by
    rw [sub_nil] at hs; cases hs
    have : u = b := by cases a <;> simpa [setA] using hg
    subst this
    refine ⟨hfu, ?_⟩
    rw [off_nil, patch_nil _ _ (by rw [RC_len hf h, RC_len hfu hu])]; exact hu
  | d :: p, S, s, a, u, b, cs, cu, hf, h, hs, hfu, hu, hg => by
    have lu := RC_len hfu hu
    cases a with
    | val t x =>
      have := Fit_val.1 hf; subst this
      cases t with
      | pair ta tb =>
        obtain ⟨c1, c2, e, h1, h2⟩ := h
        cases d with
        | false =>
          simp only [setA] at hg
          cases hq : setA (.val ta x.1) p u with
          | none => rw [hq] at hg; cases hg
          | some z =>
            rw [hq] at hg; cases hg
            have hs' : ta.sub p = some s := by simpa [Sh.sub] using hs
            obtain ⟨h3, h4⟩ := setA_RC (S := ta) (a := .val ta x.1) (Fit_val.2 rfl) (show RC w st ρ O (.val ta x.1) c1 from h1) hs' hfu hu hq
            refine ⟨mkPair_Fit h3 (Fit_val.2 rfl), ?_⟩
            rw [e, Sh.off, patch_left (by rw [Im_len h1, lu]; exact sub_size hs')]
            exact mkPair_RC h4 h2
        | true =>
          simp only [setA] at hg
          cases hq : setA (.val tb x.2) p u with
          | none => rw [hq] at hg; cases hg
          | some z =>
            rw [hq] at hg; cases hg
            have hs' : tb.sub p = some s := by simpa [Sh.sub] using hs
            obtain ⟨h3, h4⟩ := setA_RC (S := tb) (a := .val tb x.2) (Fit_val.2 rfl) (show RC w st ρ O (.val tb x.2) c2 from h2) hs' hfu hu hq
            refine ⟨mkPair_Fit (Fit_val.2 rfl) h3, ?_⟩
            rw [e, Sh.off, ← Im_len h1, patch_right]
            exact mkPair_RC (a := .val ta x.1) h1 h4
      | _ => cases d <;> simp [setA] at hg
    | pair u1 u2 =>
      cases S <;> try (exact hf.elim)
      rename_i ta tb
      obtain ⟨hf1, hf2⟩ := hf
      obtain ⟨c1, c2, e, h1, h2⟩ := h
      cases d with
      | false =>
        simp only [setA] at hg
        cases hq : setA u1 p u with
        | none => rw [hq] at hg; cases hg
        | some z =>
          rw [hq] at hg; cases hg
          have hs' : ta.sub p = some s := by simpa [Sh.sub] using hs
          obtain ⟨h3, h4⟩ := setA_RC hf1 h1 hs' hfu hu hq
          refine ⟨mkPair_Fit h3 hf2, ?_⟩
          rw [e, Sh.off, patch_left (by rw [RC_len hf1 h1, lu]; exact sub_size hs')]
          exact mkPair_RC h4 h2
      | true =>
        simp only [setA] at hg
        cases hq : setA u2 p u with
        | none => rw [hq] at hg; cases hg
        | some z =>
          rw [hq] at hg; cases hg
          have hs' : tb.sub p = some s := by simpa [Sh.sub] using hs
          obtain ⟨h3, h4⟩ := setA_RC hf2 h2 hs' hfu hu hq
          refine ⟨mkPair_Fit hf1 h3, ?_⟩
          rw [e, Sh.off, ← RC_len hf1 h1, patch_right]
          exact mkPair_RC h1 h4
    | _ => cases d <;> simp [setA] at hg

theorem setA_ids : ∀ {p : List Bool} {a u b : AV} {id : Nat}, setA a p u = some b → id ∈ b.ids → id ∈ a.ids ∨ id ∈ u.ids
  | [], a, u, b, id, hg, h => by
    have : u = b := by cases a <;> simpa [setA] using hg
    subst this; exact .inr h
  | d :: p, a, u, b, id, hg, h => by
    cases a with
    | val t x =>
      cases t with
      | pair ta tb =>
        cases d <;> simp only [setA] at hg
        · cases hq : setA (.val ta x.1) p u with
          | none => rw [hq] at hg; cases hg
          | some z =>
            rw [hq] at hg; cases hg
            rcases mkPair_ids h with h | h
            · rcases setA_ids hq h with h | h
              · simp [AV.ids] at h
              · exact .inr h
            · simp [AV.ids] at h
        · cases hq : setA (.val tb x.2) p u with
          | none => rw [hq] at hg; cases hg
          | some z =>
            rw [hq] at hg; cases hg
            rcases mkPair_ids h with h | h
            · simp [AV.ids] at h
            · rcases setA_ids hq h with h | h
              · simp [AV.ids] at h
              · exact .inr h
      | _ => cases d <;> simp [setA] at hg
    | pair u1 u2 =>
      cases d <;> simp only [setA] at hg
      · cases hq : setA u1 p u with
        | none => rw [hq] at hg; cases hg
        | some z =>
          rw [hq] at hg; cases hg
          rcases mkPair_ids h with h | h
          · rcases setA_ids hq h with h | h
            · exact .inl (by simp [AV.ids, h])
            · exact .inr h
          · exact .inl (by simp [AV.ids, h])
      · cases hq : setA u2 p u with
        | none => rw [hq] at hg; cases hg
        | some z =>
          rw [hq] at hg; cases hg
          rcases mkPair_ids h with h | h
          · exact .inl (by simp [AV.ids, h])
          · rcases setA_ids hq h with h | h
            · exact .inl (by simp [AV.ids, h])
            · exact .inr h
    | _ => cases d <;> simp [setA] at hg

/-! ### Nothing -/
def Sh.zc : Sh → List Value
  | .int k => [.int k 0]
  | .bool => [.bool false]
  | .str => [.string ByteArray.empty]
  | .sl _ _ => [.slice none 0 0]
  | .pair a b => a.zc ++ b.zc
  | .unit => []

theorem zc_len : ∀ (S : Sh), S.zc.length = S.size
  | .int _ => rfl
  | .bool => rfl
  | .str => rfl
  | .sl _ _ => rfl
  | .pair a b => by simp [Sh.zc, Sh.size, zc_len a, zc_len b]
  | .unit => rfl

theorem zeroAV_RC : ∀ (S : Sh), Fit O S (zeroAV S) ∧ RC w st ρ O (zeroAV S) S.zc
  | .int k => ⟨rfl, rfl⟩
  | .bool => ⟨rfl, rfl⟩
  | .str => ⟨rfl, rfl⟩
  | .sl T e => ⟨⟨rfl, rfl⟩, none, rfl⟩
  | .pair a b => ⟨mkPair_Fit (zeroAV_RC a).1 (zeroAV_RC b).1, mkPair_RC (zeroAV_RC a).2 (zeroAV_RC b).2⟩
  | .unit => ⟨rfl, rfl⟩

theorem zeroAV_ids : ∀ (S : Sh) (id : Nat), id ∉ (zeroAV S).ids
  | .int k, _ => by simp [zeroAV, AV.ids]
  | .bool, _ => by simp [zeroAV, AV.ids]
  | .str, _ => by simp [zeroAV, AV.ids]
  | .sl T e, _ => by simp [zeroAV, AV.ids]
  | .pair a b, id => fun h => by rcases mkPair_ids h with h | h; exact zeroAV_ids a id h; exact zeroAV_ids b id h
  | .unit, _ => by simp [zeroAV, AV.ids]

theorem zero_Ow : ∀ (S : Sh) (F : Blks), Ow w S S.zero S.zc F
  | .int k, _ => rfl
  | .bool, _ => rfl
  | .str, _ => rfl
  | .sl T e, _ => .inl ⟨rfl, none, rfl⟩
  | .pair a b, F => ⟨a.zc, b.zc, fun _ => False, fun _ => False, rfl, fun _ h _ => h, fun _ h => h.elim, fun _ h => h.elim, zero_Ow a _, zero_Ow b _⟩
  | .unit, _ => rfl
end

/-! ### Reading -/
section
variable {w : World} {st : Blks} {ρ : Nat → Value} {φ : Nat → Blks} {n : Nat} {a : Act} {s : St} {hp : Nat → Ob}

theorem Im_up {st st' : Blks} {S : Sh} {x : S.den} {cs : List Value} (hst : ∀ b, st b → st' b) (h : Im w st S x cs) : Im w st' S x cs :=
  Im_world hst (fun _ _ => rfl) h

/-- An element of an array, and its cells. -/
theorem Sim.elem (h : Sim w st ρ φ n a s) {id : Nat} {T : TypeId} {e : Sh} {xs : List e.den} (ho : s.hp id = .arr T e xs) {i : Nat} {x : e.den} (hx : xs[i]? = some x) :
    ∃ b cap arr F1, ρ id = .slice (some ⟨b, 0, none⟩) xs.length cap ∧ φ id b ∧ w.heap[b]? = some (.cells arr T (0, 0)) ∧ arr.size = cap * e.size ∧ xs.length ≤ cap ∧
      (∀ c, F1 c → φ id c) ∧ Ow w e x ((arr.toList.drop (i * e.size)).take e.size) F1 := by
  have hr := h.ob id
  rw [ho] at hr
  rcases hr with ⟨rfl, A, hA⟩ | ⟨b, cap, arr, F', hA, h1, h2, h3, h4, h5, h6, h7, h8⟩
  · simp at hx
  · obtain ⟨F1, hF1, hrr⟩ := OwL_get h8 hx
    exact ⟨b, cap, arr, F1, by simpa using hA, h1, h4, h7, h5, fun c hc => h3 c (hF1 c hc), hrr⟩

theorem rdL_get {e : Sh} {xs : List e.den} {i : Int} (h : i.toNat < xs.length) : xs[i.toNat]? = some (rdL xs i) := by
  simp [rdL, h]

theorem slice_cells {w : World} {b o sz : Nat} {arr : Array Value} {T : TypeId} {fz : Nat × Nat} (h : w.heap[b]? = some (.cells arr T fz)) (j : Nat) (v : Value)
    (hv : ((arr.toList.drop o).take sz)[j]? = some v) : w.cell? ⟨b, o + j, none⟩ = some v := by
  rw [List.getElem?_take] at hv
  split at hv
  · rw [List.getElem?_drop] at hv
    simp only [World.cell?, h, Option.isSome_none, Bool.false_eq_true, if_false]
    rw [← Array.getElem?_toList]; exact hv
  · cases hv

theorem toVal_Im (h : Sim w st ρ φ n a s) (hle : Le hp s.hp) {v : AV} : ∀ {S : Sh} {x : S.den} {cs : List Value}, toVal hp S v = some x → RC w st ρ s.hp v cs →
    Im w (fun b => st b ∨ ∃ id ∈ v.ids, φ id b) S x cs := by
  induction v with
  | val t y =>
    intro S x cs ht hr
    have ht' : cst t S y = some x := by cases S <;> exact ht
    obtain ⟨e, he⟩ := cst_some ht'
    subst e; subst he
    exact Im_up (fun b hb => .inl hb) hr
  | pair u v ihu ihv =>
    intro S x cs ht hr
    cases S with
    | pair p q =>
      obtain ⟨c1, c2, e, h1, h2⟩ := hr
      simp only [toVal] at ht
      cases h3 : toVal hp p u with
      | none => rw [h3] at ht; simp at ht
      | some y =>
        cases h4 : toVal hp q v with
        | none => rw [h3, h4] at ht; simp at ht
        | some z =>
          rw [h3, h4] at ht
          have ht : (y, z) = x := Option.some.inj ht
          subst ht
          refine ⟨c1, c2, e, Im_up ?_ (ihu h3 h1), Im_up ?_ (ihv h4 h2)⟩
          · rintro b (hb | ⟨id, hid, hb⟩)
            · exact .inl hb
            · exact .inr ⟨id, by simp [AV.ids, hid], hb⟩
          · rintro b (hb | ⟨id, hid, hb⟩)
            · exact .inl hb
            · exact .inr ⟨id, by simp [AV.ids, hid], hb⟩
    | _ => cases ht
  | nilv T' e' =>
    intro S x cs ht hr
    cases S with
    | sl T e =>
      obtain ⟨A, ec⟩ := hr
      simp only [toVal] at ht
      split at ht
      · cases ht
        exact ⟨A, 0, ec, Nat.le_refl _, fun h => absurd rfl h⟩
      · cases ht
    | _ => cases ht
  | sref id ix p =>
    intro S x cs ht hr
    cases S with
    | sl T e =>
      cases ix with
      | none =>
        obtain ⟨hp0, hO, ec, _⟩ := hr
        simp only [toVal] at ht
        cases hq : hp id with
        | arr T' e' xs =>
          rw [hq] at ht; simp only at ht
          obtain ⟨ee, he⟩ := cst_some ht
          cases ee; subst he
          have ho := h.ob id
          rw [hle.get hq (by simp)] at ho
          rw [ec]
          exact Ow_Im (fun b hb => .inr ⟨id, by simp [AV.ids], hb⟩) ho
        | _ => rw [hq] at ht; cases ht
      | some i =>
        obtain ⟨b, o, v, hpt, hsub, hcell, ec, _⟩ := hr
        simp only [toVal] at ht
        cases hq : hp id with
        | arr T' e' xs =>
          rw [hq] at ht; simp only at ht
          have hob := hle.get hq (by simp)
          obtain ⟨T0, e0, xs0, s0, l, c, h1, h2, h3, h4, h5, h6⟩ := hpt
          rw [hob] at h1; cases h1
          cases hg : getT e' (rdL xs i) p with
          | none => rw [hg] at ht; cases ht
          | some q =>
            obtain ⟨t, y⟩ := q
            rw [hg] at ht; simp only at ht
            obtain ⟨ee, he⟩ := cst_some ht
            cases ee; subst he
            obtain ⟨b', cap, arr, F1, g1, g2, g3, g4, g5, g6, g7⟩ := h.elem hob (rdL_get h4)
            rw [h2] at g1; cases g1
            obtain ⟨F2, hF2, hr, _⟩ := Ow_sub g7 hg
            have hcs : ((((arr.toList.drop (i.toNat * e'.size)).take e'.size).drop (e'.off p)).take 1) = [v] := by
              have hl1 : ((((arr.toList.drop (i.toNat * e'.size)).take e'.size).drop (e'.off p)).take 1).length = 1 := Ow_len hr
              match hm : (((arr.toList.drop (i.toNat * e'.size)).take e'.size).drop (e'.off p)).take 1, hl1 with
              | [z], _ =>
                have hz : ((((arr.toList.drop (i.toNat * e'.size)).take e'.size).drop (e'.off p)).take 1)[0]? = some z := by rw [hm]; rfl
                rw [List.getElem?_take, if_pos (by omega), List.getElem?_drop] at hz
                have := slice_cells g3 _ _ hz
                rw [Nat.add_zero, ← h6, hcell] at this
                cases this; rfl
            have hr' : Ow w (.sl T e) y [v] F2 := by
              have := hr
              simp only [Sh.size] at this
              rw [hcs] at this; exact this
            rw [ec]
            exact Ow_Im (fun c hc => .inr ⟨id, by simp [AV.ids], g6 c (hF2 c hc)⟩) hr'
        | _ => rw [hq] at ht; cases ht
    | _ => cases ht
  | _ => intro S x cs ht hr; cases S <;> cases ht

theorem absorb_val {S t : Sh} {y : t.den} {x : S.den} {D : List Nat} (ht : absorb hp S (.val t y) = some (x, D)) : ∃ e : t = S, t.flat = true ∧ e ▸ y = x ∧ D = [] := by
  have ht' : (bif t.flat then (match cst t S y with | some y => some (y, ([] : List Nat)) | none => none) else none) = some (x, D) := by cases S <;> exact ht
  cases hf : t.flat <;> rw [hf] at ht'
  · cases ht'
  · simp only [cond_true] at ht'
    cases hc : cst t S y with
    | none => rw [hc] at ht'; cases ht'
    | some z =>
      rw [hc] at ht'
      obtain ⟨e, he⟩ := cst_some hc
      cases ht'
      exact ⟨e, rfl, he, rfl⟩

theorem absorb_pair {p q : Sh} {u v : AV} {x : (Sh.pair p q).den} {D : List Nat} (ht : absorb hp (.pair p q) (.pair u v) = some (x, D)) :
    ∃ y z l m, absorb hp p u = some (y, l) ∧ absorb hp q v = some (z, m) ∧ x = (y, z) ∧ D = l ++ m := by
  simp only [absorb] at ht
  cases h3 : absorb hp p u with
  | none => rw [h3] at ht; simp at ht
  | some y =>
    cases h4 : absorb hp q v with
    | none => rw [h3, h4] at ht; simp at ht
    | some z =>
      obtain ⟨y, l⟩ := y; obtain ⟨z, m⟩ := z
      rw [h3, h4] at ht
      cases ht
      exact ⟨y, z, l, m, rfl, rfl, rfl, rfl⟩

theorem absorb_nil {T T' : TypeId} {e e' : Sh} {x : (Sh.sl T e).den} {D : List Nat} (ht : absorb hp (.sl T e) (.nilv T' e') = some (x, D)) : x = [] ∧ D = [] := by
  simp only [absorb] at ht
  split at ht
  · cases ht; exact ⟨rfl, rfl⟩
  · cases ht

theorem absorb_sref {T : TypeId} {e : Sh} {id : Nat} {ix : Option Int} {p : List Bool} {x : (Sh.sl T e).den} {D : List Nat} (ht : absorb hp (.sl T e) (.sref id ix p) = some (x, D)) :
    ix = none ∧ p = [] ∧ D = [id] ∧ hp id = .arr T e x := by
  cases ix with
  | some i => simp [absorb] at ht
  | none =>
    cases p with
    | cons _ _ => simp [absorb] at ht
    | nil =>
      simp only [absorb] at ht
      cases hq : hp id with
      | arr T' e' xs =>
        rw [hq] at ht; simp only at ht
        cases hc : cst (.sl T' e') (.sl T e) xs with
        | none => rw [hc] at ht; cases ht
        | some z =>
          rw [hc] at ht
          obtain ⟨ee, he⟩ := cst_some hc
          cases ee; cases ht; subst he
          exact ⟨rfl, rfl, rfl, rfl⟩
      | _ => rw [hq] at ht; cases ht

/-- What a value that owns its memory is made of. -/
theorem absorb_Ow (h : Sim w st ρ φ n a s) (hle : Le hp s.hp) {v : AV} : ∀ {S : Sh} {x : S.den} {D : List Nat} {cs : List Value}, absorb hp S v = some (x, D) → D.Nodup → RC w st ρ s.hp v cs →
    Ow w S x cs (fun b => ∃ id ∈ D, φ id b) := by
  induction v with
  | val t y =>
    intro S x D cs ht hn hr
    obtain ⟨e, hf, he, rfl⟩ := absorb_val ht
    subst e; subst he
    exact Im_Ow hf hr
  | pair u v ihu ihv =>
    intro S x D cs ht hn hr
    cases S with
    | pair p q =>
      obtain ⟨c1, c2, e, h1, h2⟩ := hr
      obtain ⟨y, z, l, m, h3, h4, rfl, rfl⟩ := absorb_pair ht
      have hn' := List.nodup_append.1 hn
      refine ⟨c1, c2, _, _, e, ?_, ?_, ?_, ihu h3 hn'.1 h1, ihv h4 hn'.2.1 h2⟩
      · rintro b ⟨i, hi, hb⟩ ⟨j, hj, hb'⟩
        have := h.dj i j b hb hb'
        subst this
        exact hn'.2.2 i hi i hj rfl
      · rintro b ⟨i, hi, hb⟩; exact ⟨i, by simp [hi], hb⟩
      · rintro b ⟨i, hi, hb⟩; exact ⟨i, by simp [hi], hb⟩
    | _ => cases ht
  | nilv T' e' =>
    intro S x D cs ht hn hr
    cases S with
    | sl T e =>
      obtain ⟨A, ec⟩ := hr
      obtain ⟨rfl, rfl⟩ := absorb_nil ht
      exact .inl ⟨rfl, A, ec⟩
    | _ => cases ht
  | sref id ix p =>
    intro S x D cs ht hn hr
    cases S with
    | sl T e =>
      obtain ⟨rfl, rfl, rfl, hq⟩ := absorb_sref ht
      obtain ⟨_, _, ec, _⟩ := hr
      have ho := h.ob id
      rw [hle.get hq (by simp)] at ho
      rw [ec]
      exact Ow_up (fun b hb => ⟨id, by simp, hb⟩) ho
    | _ => cases ix <;> cases p <;> cases ht
  | _ => intro S x D cs ht hn hr; cases S <;> cases ht

theorem absorb_ids {v : AV} : ∀ {S : Sh} {x : S.den} {D : List Nat}, absorb hp S v = some (x, D) → ∀ id ∈ D, id ∈ v.ids ∧ hp id ≠ .none := by
  induction v with
  | val t y =>
    intro S x D ht
    obtain ⟨e, hf, he, rfl⟩ := absorb_val ht
    simp
  | pair u v ihu ihv =>
    intro S x D ht
    cases S with
    | pair p q =>
      obtain ⟨y, z, l, m, h3, h4, rfl, rfl⟩ := absorb_pair ht
      intro id hid
      rcases List.mem_append.1 hid with hid | hid
      · have := ihu h3 id hid; exact ⟨by simp [AV.ids, this.1], this.2⟩
      · have := ihv h4 id hid; exact ⟨by simp [AV.ids, this.1], this.2⟩
    | _ => cases ht
  | nilv T' e' =>
    intro S x D ht
    cases S with
    | sl T e => obtain ⟨_, rfl⟩ := absorb_nil ht; simp
    | _ => cases ht
  | sref id ix p =>
    intro S x D ht
    cases S with
    | sl T e =>
      obtain ⟨rfl, rfl, rfl, hq⟩ := absorb_sref ht
      intro j hj
      simp at hj; subst hj
      exact ⟨by simp [AV.ids], by rw [hq]; simp⟩
    | _ => cases ix <;> cases p <;> cases ht
  | _ => intro S x D ht; cases S <;> cases ht

theorem fits_Fit (hle : Le hp s.hp) {v : AV} : ∀ {S : Sh}, fits hp S v = true → Fit s.hp S v ∧ v ≠ .unk := by
  induction v with
  | val t y =>
    intro S h
    have h' : decide (t = S) = true := by cases S <;> exact h
    exact ⟨Fit_val.2 (of_decide_eq_true h'), by simp⟩
  | pair u v ihu ihv =>
    intro S h
    cases S with
    | pair p q =>
      simp only [fits, Bool.and_eq_true] at h
      exact ⟨⟨(ihu h.1).1, (ihv h.2).1⟩, by simp⟩
    | _ => cases h
  | nilv T' e' =>
    intro S h
    cases S with
    | sl T e =>
      simp only [fits, Bool.and_eq_true, decide_eq_true_eq] at h
      exact ⟨⟨h.1.symm, h.2.symm⟩, by simp⟩
    | _ => cases h
  | sref id ix p =>
    intro S h
    cases S with
    | sl T e =>
      cases ix with
      | some i => simp [fits] at h
      | none =>
        cases p with
        | cons _ _ => simp [fits] at h
        | nil =>
          simp only [fits] at h
          cases hq : hp id with
          | arr T' e' xs =>
            rw [hq] at h; simp only [Bool.and_eq_true, decide_eq_true_eq] at h
            obtain ⟨rfl, rfl⟩ := h
            exact ⟨⟨xs, rfl, rfl, hle.get hq (by simp)⟩, by simp⟩
          | _ => rw [hq] at h; cases h
    | _ => cases ix <;> cases p <;> cases h
  | _ => intro S h; cases S <;> cases h
end

end Go.Vm
