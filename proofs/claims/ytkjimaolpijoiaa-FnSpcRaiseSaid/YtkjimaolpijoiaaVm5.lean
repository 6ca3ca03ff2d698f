/- Single operations: what the machine tells is what the model does. -/
import Derived.Test.YtkjimaolpijoiaaVm4
import Derived.Laws.StructEq
import Derived.Laws.Entries
import Derived.Lib.LazyBuf
set_option linter.unusedVariables false
set_option linter.unusedSimpArgs false
namespace Go.Vm

/-! ### The table of types -/
def Sh.dep : Sh → Nat
  | .pair a b => max a.dep b.dep + 1
  | _ => 0

theorem sub_dep : ∀ {S : Sh} {p : List Bool} {s : Sh}, S.sub p = some s → s.dep ≤ S.dep ∧ (p ≠ [] → s.dep < S.dep)
  | S, [], s, h => by rw [sub_nil] at h; cases h; exact ⟨Nat.le_refl _, fun h => absurd rfl h⟩
  | .pair a b, false :: p, s, h => by
    have := (sub_dep (S := a) (p := p) (by simpa [Sh.sub] using h)).1
    simp only [Sh.dep]; exact ⟨by omega, fun _ => by omega⟩
  | .pair a b, true :: p, s, h => by
    have := (sub_dep (S := b) (p := p) (by simpa [Sh.sub] using h)).1
    simp only [Sh.dep]; exact ⟨by omega, fun _ => by omega⟩
  | .int _, _ :: _, _, h => by simp [Sh.sub] at h
  | .bool, _ :: _, _, h => by simp [Sh.sub] at h
  | .str, _ :: _, _, h => by simp [Sh.sub] at h
  | .sl _ _, _ :: _, _, h => by simp [Sh.sub] at h
  | .unit, _ :: _, _, h => by simp [Sh.sub] at h

theorem fp_ne {n j : Nat} (h : 2 ≤ n) : fp n j ≠ [] := by
  match n, h with
  | n + 2, _ => cases j <;> simp [fp]

def Desc (X : Ctx) : Sh → Nat → TypeDesc → Prop
  | .int k, _, d => d = .int k
  | .bool, _, d => d = .bool
  | .str, _, d => d = .string
  | .sl E e, _, d => d = .slice E ∧ ∃ m, X.ty E = some (e, m)
  | .pair a b, nf, d => ∃ fs : Array Field, d = .struct fs ∧ (2 ≤ nf ∧ fs.size = nf) ∧
      ∀ j, j < nf → ∃ f s m, fs[j]? = some f ∧ (Sh.pair a b).sub (fp nf j) = some s ∧ f.offset = (Sh.pair a b).off (fp nf j) ∧ X.ty f.type = some (s, m)
  | .unit, _, _ => False

structure TyOk (P : Program) (X : Ctx) (T : TypeId) (S : Sh) (nf : Nat) : Prop where
  pos : 0 < S.size
  dep : S.dep < 10000
  nfp : S.isPair = false → nf = 0
  info : ∃ i, P.info? T = some i ∧ i.size = S.size ∧ i.bytes ≤ 32768 ∧ ∃ z, i.zero = some z ∧ VR S z S.zc
  und : ∃ d, P.underlying T = some d ∧ Desc X S nf d
  eqv : ∀ fs, P.underlying T = some (.struct fs) → S.plain = true → P.stoodInHeld T = false ∧ P.eqGuardType P.depth T = false ∧ (∀ f ∈ fs.toList, (f.name == "_") = false) ∧
    fs.toList.length = nf

def TyAll (P : Program) (X : Ctx) : Prop := ∀ T S nf, X.ty T = some (S, nf) → TyOk P X T S nf

section
variable {P : Program} {X : Ctx}

theorem TyOk.size {T : TypeId} {S : Sh} {nf : Nat} (h : TyOk P X T S nf) (w : World) : (sizeOf T).run P w = .ok S.size w := by
  obtain ⟨i, h1, h2, _⟩ := h.info
  simp [sizeOf, typeInfo, h1, h2]

theorem Desc.agg {S : Sh} {nf : Nat} {d : TypeDesc} (h : Desc X S nf d) : (match d with | .struct _ | .array _ _ => true | _ => false) = S.isPair := by
  cases S with
  | pair a b => obtain ⟨fs, rfl, _⟩ := h; rfl
  | sl T e => obtain ⟨rfl, _⟩ := h; rfl
  | unit => exact h.elim
  | _ => cases h; rfl

theorem TyOk.isAgg {T : TypeId} {S : Sh} {nf : Nat} (h : TyOk P X T S nf) (w : World) : (isAgg T).run P w = .ok S.isPair w := by
  obtain ⟨d, h1, h2⟩ := h.und
  have h3 := h2.agg
  unfold Go.isAgg
  rw [Sem.run_bind, run_underlying h1 w]
  simp only [Result.andThen_ok]
  cases d <;> simp only at h3 ⊢ <;> rw [← h3] <;> rfl

theorem TyOk.zero {T : TypeId} {S : Sh} {nf : Nat} (h : TyOk P X T S nf) : ∃ z, VR S z S.zc ∧ ∀ w, (zeroValue T).run P w = .ok z w := by
  obtain ⟨i, h1, h2, _, z, h3, h4⟩ := h.info
  exact ⟨z, h4, fun w => by simp [zeroValue, typeInfo, h1, h3]⟩

theorem add_at (b o j : Nat) : (⟨b, o, none⟩ : Addr).add j = ⟨b, o + j, none⟩ := by
  unfold Addr.add
  split
  · subst_vars; rfl
  · rfl

theorem size_one {S : Sh} (hp : S.isPair = false) (h : 0 < S.size) : S.size = 1 := by cases S <;> simp_all [Sh.size, Sh.isPair]

/-- Loading a variable of a shape. -/
theorem TyOk.loadVar {T : TypeId} {S : Sh} {nf : Nat} (h : TyOk P X T S nf) {w : World} {b o : Nat} {cs : List Value} (hl : cs.length = S.size)
    (hc : ∀ j v, cs[j]? = some v → w.cell? ⟨b, o + j, none⟩ = some v) : ∃ v, VR S v cs ∧ (Go.loadVar T ⟨b, o, none⟩).run P w = .ok v w := by
  cases hp : S.isPair with
  | true =>
    refine ⟨.agg cs.toArray, .inl ⟨hp, rfl⟩, ?_⟩
    have hc' := run_loadCells_list (P := P) w ⟨b, o, none⟩ cs (fun j v hv => by rw [add_at]; exact hc j v hv)
    rw [hl] at hc'
    simp [Go.loadVar, h.isAgg, hp, h.size, hc']
  | false =>
    have h1 := size_one hp h.pos
    match cs, hl.trans h1 with
    | [v], _ =>
      refine ⟨v, .inr ⟨hp, rfl⟩, ?_⟩
      have := hc 0 v rfl
      simp only [Nat.add_zero] at this
      simp [Go.loadVar, h.isAgg, hp, Go.load, Sem.run, this]

/-- Storing into a variable of a shape. -/
theorem TyOk.storeVar {T : TypeId} {S : Sh} {nf : Nat} (h : TyOk P X T S nf) {w : World} {b o : Nat} {v : Value} {cs : List Value} (hv : VR S v cs) (hl : cs.length = S.size) (ho : Ones cs)
    {arr : Array Value} {T0 : TypeId} (hb : w.heap[b]? = some (.cells arr T0 (0, 0))) (hfit : o + S.size ≤ arr.size) :
    (Go.storeVar T ⟨b, o, none⟩ v).run P w = .ok () (w.setRow b (patch arr.toList o cs).toArray) := by
  have hcells := VR_cells hv ho
  have hs := run_storeCells_at P b o T0 cs 0 arr w hb (by omega) ho
  simp only [Nat.add_zero] at hs
  have hsz : v.cells.size = S.size := by rw [← hl, ← hcells]; simp
  simp only [Go.storeVar, Sem.run_bind, h.size, Result.andThen_ok, hsz, ne_eq, not_true_eq_false, if_false]
  rw [hcells]
  simpa [patch] using hs

end

/-! ### What an operation is shown to do -/
section
variable (P : Program) (X : Ctx)

def Does (o : Oper) (w : World) (st : Blks) (ρ : Nat → Value) (φ : Nat → Blks) (a : Act) (s : St) (r : Res) : Prop :=
  ∃ nx v w' st' ρ' φ', (execOp a.eval o).run P w = .ok nx w' ∧ (nx = .value v ∨ (nx = .skip ∧ v = undef)) ∧
    Sim w' st' ρ' φ' X.n (a.put o.dst v) (s.app o.dst r) ∧ Fr w w' st st' ρ ρ' φ φ' s (s.app o.dst r)
end

section
variable {P : Program} {X : Ctx} {w : World} {st : Blks} {ρ : Nat → Value} {φ : Nat → Blks} {a : Act} {s : St} {o : Oper}

theorem does_pure (h : Sim w st ρ φ X.n a s) (hd : dstOk X o.dst = true) {av : AV} {v : Value} (hr : (execOp a.eval o).run P w = .ok (.value v) w)
    (hv : RV w st ρ s.hp av v) (hl : ∀ id ∈ av.ids, s.hp id ≠ .none) (c : Bool) : Does P X o w st ρ φ a s ⟨c, av, [], [], []⟩ := by
  refine ⟨_, v, w, st, ρ, φ, hr, .inl rfl, h.put o.dst v av (fun d e => ?_) hv hl, ?_⟩
  · rw [e] at hd
    simpa [dstOk, Nat.blt_eq] using hd
  · refine ⟨rfl, rfl, rfl, Nat.le_refl _, fun _ _ _ => rfl, fun _ h => h, fun _ h => .inl h, fun id b h => .inl ⟨id, h⟩, fun id _ hn => ⟨?_, rfl⟩⟩
    have : (s.app o.dst ⟨c, av, [], [], []⟩).hp id = s.hp id := by
      show (St.put ⟨s.env, s.hp⟩ o.dst av).hp id = _
      cases o.dst <;> rfl
    rw [this] at hn; exact hn

theorem opnd_RV (h : Sim w st ρ φ X.n a s) (T : TypeId) (x : Operand) : RV w st ρ s.hp (rho X s.env T x) (a.eval x) := by
  cases x with
  | tmp t => exact h.env t
  | const v =>
    show RV w st ρ s.hp (constAV X T v) v
    unfold constAV
    split
    · exact RV_int _ _
    · exact RV_bool _
    · exact RV_str _
    · split
      · exact RV_scalar (av := .nilv _ _) ⟨none, rfl⟩ rfl rfl
      · exact RV_unk _
    · exact RV_unk _
  | func f => exact RV_scalar (av := .fn f []) (by show _ = _; simp; rfl) rfl rfl
  | global g => exact RV_unk _

theorem opnd_ids (h : Sim w st ρ φ X.n a s) (T : TypeId) (x : Operand) : ∀ id ∈ (rho X s.env T x).ids, s.hp id ≠ .none := by
  intro id hid
  cases x with
  | tmp t => exact h.wf t id hid
  | const v =>
    have : id ∈ (constAV X T v).ids := hid
    unfold constAV at this
    split at this <;> first | (simp [AV.ids] at this; done) | (split at this <;> simp [AV.ids] at this)
  | func f => simp [rho, opnd, AV.ids] at hid
  | global g => simp [rho, opnd, AV.ids] at hid

theorem run_value (v : Value) : Sem.run P (Pure.pure (Next.value v) : Sem Next) w = .ok (.value v) w := rfl

theorem does_move {x : Operand} (ho : o.op = .move x ∨ o.op = .assign x) (h : Sim w st ρ φ X.n a s) (hd : dstOk X o.dst = true) :
    Does P X o w st ρ φ a s (.pure (rho X s.env o.type x)) :=
  does_pure h hd (v := a.eval x) (by rcases ho with ho | ho <;> simp [execOp, ho]) (opnd_RV h _ _) (opnd_ids h _ _) _

theorem does_pick {c x y : Operand} (ho : o.op = .pick c x y) (h : Sim w st ρ φ X.n a s) (hd : dstOk X o.dst = true) {t : Bool} (hc : rho X s.env 0 c = .val .bool t) :
    Does P X o w st ρ φ a s (.pure (rho X s.env o.type (bif t then x else y))) := by
  have hb := bool_of_RV (hc ▸ opnd_RV h 0 c)
  refine does_pure h hd (v := a.eval (bif t then x else y)) ?_ (opnd_RV h _ _) (opnd_ids h _ _) _
  cases t <;> simp [execOp, ho, hb, asBool]

/-! Numbers. -/
theorem does_int {op : BinOp} {T T' : TypeId} {x y : Operand} (ho : o.op = .binOp op T x y T') (h : Sim w st ρ φ X.n a s) (hd : dstOk X o.dst = true) {k : IntKind} {i j : Int} {r : Res}
    (hx : rho X s.env T x = .val (.int k) i) (hy : rho X s.env T y = .val (.int k) j) (hr : iop op k i j = some r) (hc : r.c = true) : Does P X o w st ρ φ a s r := by
  have ex := int_of_RV (hx ▸ opnd_RV h T x)
  have ey := int_of_RV (hy ▸ opnd_RV h T y)
  cases op <;> simp only [iop, Option.some.injEq, reduceCtorEq] at hr <;> subst hr
  case quo =>
    have hj : j ≠ 0 := by simpa [Res.when] using hc
    exact does_pure h hd (v := .int k (k.wrap (i.tdiv j))) (by simp [execOp, ho, ex, ey, eqGuard, binOp, Op.intDiv, hj]) (RV_int _ _) (by simp [AV.ids]) _
  case rem =>
    have hj : j ≠ 0 := by simpa [Res.when] using hc
    exact does_pure h hd (v := .int k (i.tmod j)) (by simp [execOp, ho, ex, ey, eqGuard, binOp, Op.intDiv, hj]) (RV_int _ _) (by simp [AV.ids]) _
  case add => exact does_pure h hd (v := .int k (k.wrap (i + j))) (by simp [execOp, ho, ex, ey, eqGuard, binOp, Op.intArith]) (RV_int _ _) (by simp [AV.ids]) _
  case sub => exact does_pure h hd (v := .int k (k.wrap (i - j))) (by simp [execOp, ho, ex, ey, eqGuard, binOp, Op.intArith]) (RV_int _ _) (by simp [AV.ids]) _
  case mul => exact does_pure h hd (v := .int k (k.wrap (i * j))) (by simp [execOp, ho, ex, ey, eqGuard, binOp, Op.intArith]) (RV_int _ _) (by simp [AV.ids]) _
  case and => exact does_pure h hd (v := .int k (bits .and k i j)) (by simp [execOp, ho, ex, ey, eqGuard, binOp, Op.intBits, bits]) (RV_int _ _) (by simp [AV.ids]) _
  case or => exact does_pure h hd (v := .int k (bits .or k i j)) (by simp [execOp, ho, ex, ey, eqGuard, binOp, Op.intBits, bits]) (RV_int _ _) (by simp [AV.ids]) _
  case xor => exact does_pure h hd (v := .int k (bits .xor k i j)) (by simp [execOp, ho, ex, ey, eqGuard, binOp, Op.intBits, bits]) (RV_int _ _) (by simp [AV.ids]) _
  case eql => exact does_pure h hd (v := .bool (decide (i = j))) (by simp [execOp, ho, ex, ey, eqGuard, binOp, Op.intCmp]; rfl) (RV_bool _) (by simp [AV.ids]) _
  case neq => exact does_pure h hd (v := .bool (!decide (i = j))) (by simp [execOp, ho, ex, ey, eqGuard, binOp, Op.intCmp]; rfl) (RV_bool _) (by simp [AV.ids]) _
  case lss => exact does_pure h hd (v := .bool (decide (i < j))) (by simp [execOp, ho, ex, ey, eqGuard, binOp, Op.intCmp]) (RV_bool _) (by simp [AV.ids]) _
  case leq => exact does_pure h hd (v := .bool (decide (i ≤ j))) (by simp [execOp, ho, ex, ey, eqGuard, binOp, Op.intCmp]) (RV_bool _) (by simp [AV.ids]) _
  case gtr => exact does_pure h hd (v := .bool (decide (i > j))) (by simp [execOp, ho, ex, ey, eqGuard, binOp, Op.intCmp]) (RV_bool _) (by simp [AV.ids]) _
  case geq => exact does_pure h hd (v := .bool (decide (i ≥ j))) (by simp [execOp, ho, ex, ey, eqGuard, binOp, Op.intCmp]) (RV_bool _) (by simp [AV.ids]) _

/-! Equality of structs. -/
theorem run_part {T : TypeId} {S : Sh} {nf : Nat} (hT : TyOk P X T S nf) {cs : List Value} {o : Nat} {seg : List Value} (hs : (cs.drop o).take S.size = seg) (hl : seg.length = S.size) :
    ∃ v, VR S v seg ∧ (part T cs.toArray o).run P w = .ok v w := by
  cases hp : S.isPair with
  | true =>
    refine ⟨.agg seg.toArray, .inl ⟨hp, rfl⟩, ?_⟩
    have : cs.toArray.extract o (o + S.size) = seg.toArray := by
      apply Array.ext'
      simp [← hs]
    simp only [part, Sem.run_bind, hT.isAgg, hp, hT.size, this, Result.andThen_ok, if_true, Sem.run_pure]
  | false =>
    have h1 := size_one hp hT.pos
    match seg, hl.trans h1 with
    | [v], _ =>
      refine ⟨v, .inr ⟨hp, rfl⟩, ?_⟩
      have : cs.toArray[o]? = some v := by
        have : ((cs.drop o).take S.size)[0]? = some v := by rw [hs]; rfl
        rw [List.getElem?_take, if_pos (by omega), List.getElem?_drop] at this
        simpa using this
      simp [part, hT.isAgg, hp, this]

theorem plain_und {T : TypeId} {S : Sh} {nf : Nat} (hT : TyOk P X T S nf) (hp : S.plain = true) : (∃ k, S = .int k ∧ P.underlying T = some (.int k)) ∨ (S = .bool ∧ P.underlying T = some .bool) ∨
    ∃ p q fs, S = .pair p q ∧ P.underlying T = some (.struct fs) := by
  obtain ⟨d, h1, h2⟩ := hT.und
  cases S with
  | int k => cases h2; exact .inl ⟨k, rfl, h1⟩
  | bool => cases h2; exact .inr (.inl ⟨rfl, h1⟩)
  | pair p q => obtain ⟨fs, rfl, _⟩ := h2; exact .inr (.inr ⟨p, q, fs, rfl, h1⟩)
  | _ => simp [Sh.plain] at hp

theorem sub_plain : ∀ {S : Sh} {p : List Bool} {s : Sh}, S.plain = true → S.sub p = some s → s.plain = true
  | S, [], s, hp, h => by rw [sub_nil] at h; cases h; exact hp
  | .pair a b, false :: p, s, hp, h => by
    simp only [Sh.plain, Bool.and_eq_true] at hp
    exact sub_plain hp.1 (by simpa [Sh.sub] using h)
  | .pair a b, true :: p, s, hp, h => by
    simp only [Sh.plain, Bool.and_eq_true] at hp
    exact sub_plain hp.2 (by simpa [Sh.sub] using h)
  | .int _, _ :: _, _, _, h => by simp [Sh.sub] at h
  | .bool, _ :: _, _, _, h => by simp [Sh.sub] at h
  | .str, _ :: _, _, _, h => by simp [Sh.sub] at h
  | .sl _ _, _ :: _, _, _, h => by simp [Sh.sub] at h
  | .unit, _ :: _, _, _, h => by simp [Sh.sub] at h

theorem beq_fields : ∀ (m : Nat) (S : Sh) (x y : S.den), (∀ j, j < m → ∃ s, S.sub (fp m j) = some s) → 1 ≤ m → S.plain = true →
    ∀ r : Nat → Bool, (∀ j, j < m → ∀ s u v, getT S x (fp m j) = some ⟨s, u⟩ → getT S y (fp m j) = some ⟨s, v⟩ → r j = s.beq u v) →
    S.beq x y = (List.range m).all r
  | 0, _, _, _, _, h, _, _, _ => by omega
  | 1, S, x, y, hs, _, _, r, hr => by
    have := hr 0 (by omega) S x y (by simp [fp, getT_nil]) (by simp [fp, getT_nil])
    simp [List.range_succ, this]
  | m + 2, S, x, y, hs, _, hp, r, hr => by
    obtain ⟨s0, h0⟩ := hs 0 (by omega)
    cases S with
    | pair a b =>
      simp only [Sh.plain, Bool.and_eq_true] at hp
      have ha := hr 0 (by omega) a x.1 y.1 (by simp [fp, getT, getT_nil]) (by simp [fp, getT, getT_nil])
      have hb := beq_fields (m + 1) b x.2 y.2 (fun j hj => by
          obtain ⟨s, hs'⟩ := hs (j + 1) (by omega)
          exact ⟨s, by simpa [fp, Sh.sub] using hs'⟩) (by omega) hp.2 (fun j => r (j + 1)) (fun j hj s u v hu hv =>
          hr (j + 1) (by omega) s u v (by simpa [fp, getT] using hu) (by simpa [fp, getT] using hv))
      simp only [Sh.beq, hb, ← ha]
      rw [show List.range (m + 2) = 0 :: (List.range (m + 1)).map (· + 1) from by rw [List.range_succ_eq_map]]
      simp [List.all_map]; rfl
    | _ => simp [fp, Sh.sub] at h0

theorem run_eqFields {d : Nat} {S : Sh} {x y : S.den} {cx cy : List Value} {nf : Nat} {fs : List Field} {r : Nat → Bool} : ∀ (l : List Field) (k : Nat),
    (∀ j f, l[j]? = some f → (f.name == "_") = false ∧ ∃ u v, (part f.type cx.toArray f.offset).run P w = .ok u w ∧ (part f.type cy.toArray f.offset).run P w = .ok v w ∧
      (Op.equalIn d f.type u v).run P w = .ok (r (k + j)) w) →
    (Op.eqFields d cx.toArray cy.toArray l).run P w = .ok ((List.range l.length).all fun j => r (k + j)) w
  | [], k, _ => by simp [Op.eqFields]
  | f :: l, k, h => by
    obtain ⟨hn, u, v, h1, h2, h3⟩ := h 0 f rfl
    have hn' : f.name ≠ "_" := by simpa using hn
    have ih := run_eqFields (d := d) (S := S) (x := x) (y := y) (nf := nf) (fs := fs) l (k + 1) (fun j g hg => by
      have := h (j + 1) g (by simpa using hg)
      rwa [show k + (j + 1) = k + 1 + j by omega] at this)
    rw [Op.eqFields]
    simp only [if_pos hn', Sem.run_bind, h1, h2, h3, Result.andThen_ok]
    rw [show List.range (f :: l).length = 0 :: (List.range l.length).map (· + 1) from by rw [List.length_cons, List.range_succ_eq_map]]
    simp only [List.all_cons, List.all_map, Function.comp_def, Nat.add_zero]
    have e : (fun j => r (k + (j + 1))) = fun j => r (k + 1 + j) := by funext j; congr 1; omega
    rw [e]
    simp only [Nat.add_zero] at *
    cases r k
    · simp
    · simpa using ih

/-- '==' on plain values. -/
theorem run_equalIn (hA : TyAll P X) : ∀ (d : Nat) {T : TypeId} {S : Sh} {nf : Nat}, X.ty T = some (S, nf) → S.plain = true → S.dep < d → ∀ {x y : S.den} {cx cy : List Value} {u v : Value}, Im w st S x cx → Im w st S y cy →
    VR S u cx → VR S v cy → (Op.equalIn d T u v).run P w = .ok (S.beq x y) w
  | 0, T, S, nf, hT, hp, hd, x, y, cx, cy, u, v, hx, hy, hu, hv => by omega
  | d + 1, T, S, nf, hT, hp, hd, x, y, cx, cy, u, v, hx, hy, hu, hv => by
    have hTy := hA T S nf hT
    rcases plain_und hTy hp with ⟨k, rfl, hund⟩ | ⟨rfl, hund⟩ | ⟨p, q, fs, rfl, hund⟩
    · cases hx; cases hy
      rcases hu with ⟨h, _⟩ | ⟨_, hu⟩
      · cases h
      rcases hv with ⟨h, _⟩ | ⟨_, hv⟩
      · cases h
      cases hu; cases hv
      simp [Op.equalIn, run_underlying hund, Sh.beq]; rfl
    · cases hx; cases hy
      rcases hu with ⟨h, _⟩ | ⟨_, hu⟩
      · cases h
      rcases hv with ⟨h, _⟩ | ⟨_, hv⟩
      · cases h
      cases hu; cases hv
      simp [Op.equalIn, run_underlying hund, Sh.beq]
    · rcases hu with ⟨_, rfl⟩ | ⟨h, _⟩
      rotate_left
      · cases h
      rcases hv with ⟨_, rfl⟩ | ⟨h, _⟩
      rotate_left
      · cases h
      obtain ⟨e1, _, e3, e4⟩ := hTy.eqv fs hund hp
      obtain ⟨d0, hd1, hd2⟩ := hTy.und
      rw [hund] at hd1; cases hd1
      obtain ⟨fs', hfs, hn, hfl⟩ := hd2
      cases hfs
      have hf : P.fieldsOf T = fs := by simp [Program.fieldsOf, hund]
      rw [run_equalIn_struct (P := P) w d T cx.toArray cy.toArray (by rw [hf]; exact hund) e1, hf]
      let r : Nat → Bool := fun j => match getT (.pair p q) x (fp nf j), getT (.pair p q) y (fp nf j) with
        | some ⟨s, a⟩, some ⟨t, b⟩ => (match cst t s b with | some b => s.beq a b | none => false)
        | _, _ => false
      have hr : ∀ j, ∀ s a b, getT (.pair p q) x (fp nf j) = some ⟨s, a⟩ → getT (.pair p q) y (fp nf j) = some ⟨s, b⟩ → r j = s.beq a b := by
        intro j s a b ha hb
        simp only [r, ha, hb, cst_self]
      have hbeq := beq_fields nf (.pair p q) x y (fun j hj => by obtain ⟨f, s, m, _, h2, _⟩ := hfl j hj; exact ⟨s, h2⟩) (by omega) hp r (fun j _ s a b ha hb => hr j s a b ha hb)
      have hrun := run_eqFields (P := P) (w := w) (d := d) (S := .pair p q) (x := x) (y := y) (cx := cx) (cy := cy) (nf := nf) (fs := []) (r := r) fs.toList 0 (fun j f hj => by
        have hjlt : j < nf := by
          rw [← e4]
          exact (List.getElem?_eq_some_iff.1 hj).1
        obtain ⟨f', s, m, h1, h2, h3, h4⟩ := hfl j hjlt
        have : f' = f := by
          have : fs[j]? = some f := by rw [← Array.getElem?_toList]; exact hj
          rw [h1] at this; exact Option.some.inj this
        subst this
        refine ⟨e3 f' (List.mem_of_getElem? hj), ?_⟩
        obtain ⟨a, ha⟩ := getT_some h2 x
        obtain ⟨b, hb⟩ := getT_some h2 y
        have ia := Im_sub hx ha
        have ib := Im_sub hy hb
        obtain ⟨ua, hva, hra⟩ := run_part (P := P) (X := X) (w := w) (hA _ _ _ h4) (o := f'.offset) (cs := cx) rfl (by rw [h3]; exact Im_len ia)
        obtain ⟨ub, hvb, hrb⟩ := run_part (P := P) (X := X) (w := w) (hA _ _ _ h4) (o := f'.offset) (cs := cy) rfl (by rw [h3]; exact Im_len ib)
        refine ⟨ua, ub, hra, hrb, ?_⟩
        rw [Nat.zero_add, hr j s a b ha hb]
        have hdep := (sub_dep h2).2 (fp_ne hn.1)
        exact run_equalIn hA d h4 (sub_plain hp h2) (by omega) ia ib (by rw [← h3]; exact hva) (by rw [← h3]; exact hvb))
      rw [hrun, hbeq, e4]
      simp

theorem toVal_RV {hp O : Nat → Ob} {S : Sh} {u : AV} {x : S.den} {v : Value} (ht : toVal hp S u = some x) (h : RV w st ρ O u v) : ∃ cs, VR S v cs ∧ RC w st ρ O u cs := by
  cases u with
  | val t y =>
    have ht' : cst t S y = some x := by cases S <;> exact ht
    obtain ⟨e, _⟩ := cst_some ht'
    subst e
    exact RC_of_RV (S := t) (Fit_val.2 rfl) (by simp) h
  | pair p q =>
    cases S with
    | pair a b =>
      rcases h with ⟨h, _⟩ | ⟨_, h⟩
      · cases h
      · rcases h with h | ⟨_, cs, e, h⟩ | ⟨h, _⟩
        · cases h
        · exact ⟨cs.toList, .inl ⟨rfl, by simp [e]⟩, h⟩
        · cases h
    | _ => cases ht
  | nilv T e =>
    cases S with
    | sl T' e' => exact ⟨[v], .inr ⟨rfl, rfl⟩, RC_scalar h rfl rfl (by simp)⟩
    | _ => cases ht
  | sref id ix p =>
    cases S with
    | sl T' e' => exact ⟨[v], .inr ⟨rfl, rfl⟩, RC_scalar h rfl rfl (by simp)⟩
    | _ => cases ht
  | _ => cases S <;> cases ht

theorem run_eq_bool {T : TypeId} (hu : P.underlying T = some .bool) {i j : Bool} (d : Nat) : (Op.equalIn (d + 1) T (.bool i) (.bool j)).run P w = .ok (i == j) w := by
  simp [Op.equalIn, run_underlying hu]

theorem does_nilQ (hA : TyAll P X) {op : BinOp} {T T' : TypeId} {x y : Operand} (ho : o.op = .binOp op T x y T') (h : Sim w st ρ φ X.n a s) (hd : dstOk X o.dst = true) {r : Res}
    (hr : nilQ X op T y (rho X s.env T x) = some r) : Does P X o w st ρ φ a s r := by
  have rx := opnd_RV h T x
  unfold nilQ at hr
  split at hr
  · rename_i E e xs ex
    split at hr
    · rename_i E' e' nf hT
      cases hr
      obtain ⟨d, hu, hdsc⟩ := (hA _ _ _ hT).und
      obtain ⟨rfl, _⟩ := hdsc
      rw [ex] at rx
      obtain ⟨A, cap, e1, _, e3⟩ := sl_of_RV rx
      have vx : a.eval x = .slice A xs.length cap := by simpa using e1
      refine does_pure h hd (v := .bool A.isNone) ?_ (RV_scalar (av := .nq _) ⟨_, rfl, fun hn => ?_⟩ rfl rfl) (by simp [AV.ids]) _
      · have vy : a.eval (.const (.slice none 0 0)) = .slice none 0 0 := rfl
        simp [execOp, ho, vx, vy, eqGuard, Go.run_eql_slice_nil w _ _ A _ _ hu]
      · cases xs with
        | nil => rfl
        | cons y ys =>
          obtain ⟨b, of, rfl, _⟩ := e3 (by simp)
          cases hn
    · cases hr
  · cases hr

theorem does_bop (hA : TyAll P X) {op : BinOp} {T T' : TypeId} {x y : Operand} (ho : o.op = .binOp op T x y T') (h : Sim w st ρ φ X.n a s) (hd : dstOk X o.dst = true) {hp : Nat → Ob} (hle : Le hp s.hp) {r : Res}
    (hr : bop X op T (rho X s.env T x) (rho X s.env T y) hp = some r) (hc : r.c = true) : Does P X o w st ρ φ a s r := by
  have rx := opnd_RV h T x
  have ry := opnd_RV h T y
  unfold bop at hr
  split at hr
  · rename_i k i k' j ex ey
    split at hr
    · rename_i hk; subst hk
      exact does_int ho h hd ex ey hr hc
    · cases hr
  · rename_i i j ex ey
    have vx := bool_of_RV (ex ▸ rx)
    have vy := bool_of_RV (ey ▸ ry)
    split at hr
    · rename_i m hT
      obtain ⟨d, hu, hdd⟩ := (hA _ _ _ hT).und
      cases hdd
      have heq : (Op.equal T (.bool i) (.bool j)).run P w = .ok ((i : Bool) == j) w := run_eq_bool hu 9999
      split at hr
      · cases hr
        exact does_pure h hd (v := .bool (i == j)) (by simp [execOp, ho, vx, vy, eqGuard, binOp, heq]) (RV_bool _) (by simp [AV.ids]) _
      · cases hr
        exact does_pure h hd (v := .bool (!(i == j))) (by simp [execOp, ho, vx, vy, eqGuard, binOp, heq]) (RV_bool _) (by simp [AV.ids]) _
      · cases hr
    · cases hr
  · rename_i i j ex ey
    have vx := str_of_RV (ex ▸ rx)
    have vy := str_of_RV (ey ▸ ry)
    cases op <;> simp only [sop, Option.some.injEq, reduceCtorEq] at hr <;> subst hr
    case add =>
      have hb : i.size + j.size ≤ BIG := by simpa [Res.when] using hc
      have hb' : ¬ (((i.size + j.size : Nat) : Int) > IntKind.i64.max) := by
        have : IntKind.i64.max = 9223372036854775807 := by decide
        unfold BIG at hb; omega
      exact does_pure h hd (v := .string (i ++ j)) (by simp [execOp, ho, vx, vy, eqGuard, binOp, Op.stringOp]; simpa using hb') (RV_str _) (by simp [AV.ids]) _
    case eql => exact does_pure h hd (v := .bool (i.toList == j.toList)) (by simp [execOp, ho, vx, vy, eqGuard, binOp, Op.stringOp]) (RV_bool _) (by simp [AV.ids]) _
    case neq => exact does_pure h hd (v := .bool (!(i.toList == j.toList))) (by simp [execOp, ho, vx, vy, eqGuard, binOp, Op.stringOp]) (RV_bool _) (by simp [AV.ids]) _
  · split at hr
    · rename_i p q m hT
      cases hpl : (Sh.pair p q).plain <;> rw [hpl] at hr
      · cases hr
      simp only [cond_true] at hr
      split at hr
      · rename_i i j ei ej
        obtain ⟨cx, hvx, hcx⟩ := toVal_RV ei rx
        obtain ⟨cy, hvy, hcy⟩ := toVal_RV ej ry
        have ix := Im_up (st' := fun b => True) (fun _ _ => trivial) (toVal_Im h hle ei hcx)
        have iy := Im_up (st' := fun b => True) (fun _ _ => trivial) (toVal_Im h hle ej hcy)
        have hTy := hA _ _ _ hT
        have heq : (Op.equal T (a.eval x) (a.eval y)).run P w = .ok ((Sh.pair p q).beq i j) w := run_equalIn hA _ hT hpl hTy.dep ix iy hvx hvy
        obtain ⟨fs, hund⟩ : ∃ fs, P.underlying T = some (.struct fs) := by
          obtain ⟨d, h1, fs, rfl, _⟩ := hTy.und
          exact ⟨fs, h1⟩
        have hg := (hTy.eqv fs hund hpl).2.1
        rcases hvx with ⟨_, hvx⟩ | ⟨hh, _⟩
        rotate_left
        · cases hh
        rcases hvy with ⟨_, hvy⟩ | ⟨hh, _⟩
        rotate_left
        · cases hh
        rw [hvx, hvy] at heq
        split at hr
        · cases hr
          exact does_pure h hd (v := .bool ((Sh.pair p q).beq i j)) (by simp [execOp, ho, hvx, hvy, eqGuard, hg, binOp, heq]) (RV_bool _) (by simp [AV.ids]) _
        · cases hr
          exact does_pure h hd (v := .bool (!((Sh.pair p q).beq i j))) (by simp [execOp, ho, hvx, hvy, eqGuard, hg, binOp, heq]) (RV_bool _) (by simp [AV.ids]) _
        · cases hr
      · cases hr
    · cases hr

/-! Others that leave memory alone. -/
theorem does_not {T : TypeId} {x : Operand} (ho : o.op = .unOp .not T x) (h : Sim w st ρ φ X.n a s) (hd : dstOk X o.dst = true) {b : Bool}
    (hx : rho X s.env 0 x = .val .bool b) : Does P X o w st ρ φ a s (.pure (.val .bool (!b))) := by
  have vx := bool_of_RV (hx ▸ opnd_RV h 0 x)
  exact does_pure h hd (v := .bool (!b)) (by simp [execOp, ho, vx, Op.unary]) (RV_bool _) (by simp [AV.ids]) _

theorem does_neg {T : TypeId} {x : Operand} (ho : o.op = .unOp .neg T x) (h : Sim w st ρ φ X.n a s) (hd : dstOk X o.dst = true) {k : IntKind} {n : Int}
    (hx : rho X s.env 0 x = .val (.int k) n) : Does P X o w st ρ φ a s (.pure (.val (.int k) (k.wrap (0 - n)))) := by
  have vx := int_of_RV (hx ▸ opnd_RV h 0 x)
  exact does_pure h hd (v := .int k (k.wrap (0 - n))) (by simp [execOp, ho, vx, Op.unary, Op.intArith]) (RV_int _ _) (by simp [AV.ids]) _

theorem does_nilCheck {x : Operand} (ho : o.op = .nilCheck x) (h : Sim w st ρ φ X.n a s) (hd : dstOk X o.dst = true) {id : Nat} {ix : Option Int} {p : List Bool}
    (hx : rho X s.env 0 x = .ptr id ix p) : Does P X o w st ρ φ a s (.pure (.ptr id ix p)) := by
  have rx := opnd_RV h 0 x
  have hl := opnd_ids h 0 x
  rw [hx] at rx hl
  obtain ⟨b, of, hp, e⟩ := RC_scalar rx rfl rfl (by simp)
  have e : a.eval x = .pointer (some ⟨b, of, none⟩) := by simpa using e
  exact does_pure h hd (v := a.eval x) (by simp [execOp, ho, e]) rx hl _

theorem RV_scalar_of {av : AV} {v : Value} (h : RC w st ρ s.hp av [v]) (ht : av.isTup = false) (ha : av.agg = false) : RV w st ρ s.hp av v := RV_scalar h ht ha

theorem Sim.sref_len (h : Sim w st ρ φ X.n a s) {id : Nat} {T : TypeId} {e : Sh} {xs : List e.den} (ho : s.hp id = .arr T e xs) : ∃ A cap, ρ id = .slice A xs.length cap := by
  have hr := h.ob id
  rw [ho] at hr
  rcases hr with ⟨rfl, A, hA⟩ | ⟨b, cap, arr, F', hA, _⟩
  · exact ⟨A, 0, by simpa using hA⟩
  · exact ⟨_, cap, by simpa using hA⟩

theorem run_len {t : TypeId} {ts : List TypeId} {A : Option Addr} {n c : Nat} {e : TypeId} (hu : P.underlying t = some (.slice e)) :
    (Builtin.len_ (t :: ts).toArray o.type #[.slice A n c]).run P w = .ok (.int .i64 n) w := by
  simp [Builtin.len_, run_underlying hu, goInt]

theorem toVal_sref_some {hp : Nat → Ob} {id : Nat} {i : Int} {p : List Bool} {T T' : TypeId} {e e' : Sh} {xs : List e.den} {ys : List e'.den} (hq : hp id = .arr T e xs)
    (hg : getT e (rdL xs i) p = some ⟨.sl T' e', ys⟩) : toVal hp (.sl T' e') (.sref id (some i) p) = some ys := by
  simp only [toVal, hq, hg]
  exact cst_self _

/-- A slice value's number is what the machine says. -/
theorem lenAV_slice {hp : Nat → Ob} (hle : Le hp s.hp) (h : Sim w st ρ φ X.n a s) {T : TypeId} {e : Sh} {u : AV} {v : Value} {r : Res} (hr : lenAV hp (.sl T e) u = some r) (hv : RV w st ρ s.hp u v) :
    ∃ A m k, v = .slice A m k ∧ r = .pure (.val (.int .i64) ((m : Nat) : Int)) := by
  cases u with
  | val t y =>
    cases t with
    | sl T' e' =>
      cases hr
      obtain ⟨A, cap, e, _⟩ := sl_of_RV hv
      exact ⟨A, _, cap, by simpa using e, rfl⟩
    | _ => cases hr
  | nilv T' e' =>
    cases hr
    obtain ⟨A, e⟩ := RC_scalar hv rfl rfl (by simp)
    exact ⟨A, 0, 0, by simpa using e, rfl⟩
  | sref id ix p =>
    simp only [lenAV] at hr
    cases hq : hp id with
    | arr T' e' xs =>
      rw [hq] at hr; simp only at hr
      cases ix with
      | none =>
        cases hr
        obtain ⟨_, _, ee, _⟩ := RC_scalar hv rfl rfl (by simp)
        obtain ⟨A, cap, hl⟩ := h.sref_len (hle.get hq (by simp))
        exact ⟨A, _, cap, by simp at ee; rw [ee, hl], rfl⟩
      | some i =>
        simp only at hr
        cases hg : getT e' (rdL xs i) p with
        | none => rw [hg] at hr; cases hr
        | some q =>
          obtain ⟨t, y⟩ := q
          rw [hg] at hr
          cases t with
          | sl T2 e2 =>
            cases hr
            have := toVal_Im h hle (toVal_sref_some hq hg) (RC_scalar hv rfl rfl (by simp))
            obtain ⟨A, cap, ee, _⟩ := this
            exact ⟨A, _, cap, by simpa using ee, rfl⟩
          | _ => cases hr
    | _ => rw [hq] at hr; cases hr
  | _ => cases hr

theorem does_len (hA : TyAll P X) {c : Call} (ho : o.op = .call c) (hcal : c.callee = .builtin .len) {x : Operand} {T : TypeId} {ts : List TypeId} (ha : c.args.toList = [x]) (hts : c.argTypes.toList = T :: ts)
    (h : Sim w st ρ φ X.n a s) (hd : dstOk X o.dst = true) {hp : Nat → Ob} (hle : Le hp s.hp) {S : Sh} {nf : Nat} (hT : X.ty T = some (S, nf)) {r : Res} (hr : lenAV hp S (rho X s.env 0 x) = some r) : Does P X o w st ρ φ a s r := by
  have rx := opnd_RV h 0 x
  have hargs : c.args = #[x] := by rw [← Array.toArray_toList (xs := c.args), ha]
  have hT2 : c.argTypes = (T :: ts).toArray := by rw [← hts, Array.toArray_toList]
  obtain ⟨d, hu, hdd⟩ := (hA _ _ _ hT).und
  cases S with
  | sl E e =>
    obtain ⟨rfl, _⟩ := hdd
    obtain ⟨A, m, k, hv, rfl⟩ := lenAV_slice hle h hr rx
    refine does_pure h hd (v := .int .i64 m) ?_ (RV_int _ _) (by simp [AV.ids]) _
    have := run_len (P := P) (w := w) (o := o) (ts := ts) (A := A) (n := m) (c := k) hu
    simp [execOp, ho, resolve, hcal, invoke, builtin, hargs, hv, hT2] at this ⊢
    rw [this]; simp
  | str =>
    cases hdd
    cases hx : rho X s.env 0 x with
    | val t y =>
      rw [hx] at hr rx
      cases t with
      | str =>
        cases hr
        have hv := str_of_RV rx
        refine does_pure h hd (v := .int .i64 (ByteArray.size y : Nat)) ?_ (RV_int _ _) (by simp [AV.ids]) _
        simp [execOp, ho, resolve, hcal, invoke, builtin, hargs, hv, hT2, Builtin.len_, run_underlying hu, goInt]
      | _ => cases hr
    | _ => rw [hx] at hr; cases hr
  | _ => cases hr

theorem does_makeFunc {f : FuncId} {first caps : Array Operand} (ho : o.op = .makeFunc (.func f) first caps) (hfirst : first.size = 0) (h : Sim w st ρ φ X.n a s) (hd : dstOk X o.dst = true) {l : List Nat}
    (hl : capIds (caps.toList.map fun x => rho X s.env 0 x) = some l) : Does P X o w st ρ φ a s (.pure (.fn f l)) := by
  have key : ∀ (cs : List Operand) (l : List Nat), capIds (cs.map fun x => rho X s.env 0 x) = some l → cs.map a.eval = l.map ρ ∧ ∀ id ∈ l, s.hp id ≠ .none := by
    intro cs
    induction cs with
    | nil => intro l hl; cases hl; simp
    | cons c cs ih =>
      intro l hl
      have rx := opnd_RV h 0 c
      have lx := opnd_ids h 0 c
      simp only [List.map_cons] at hl
      cases hx : rho X s.env 0 c with
      | ptr id ix p =>
        rw [hx] at hl rx lx
        cases ix with
        | some _ => cases hl
        | none =>
        cases p with
        | cons _ _ => cases hl
        | nil =>
        simp only [capIds] at hl
        cases hm : capIds (cs.map fun x => rho X s.env 0 x) with
        | none => rw [hm] at hl; cases hl
        | some m =>
          rw [hm] at hl
          simp only [Option.some.injEq] at hl
          subst hl
          obtain ⟨h1, h2⟩ := ih m hm
          obtain ⟨b, of, hpt, e⟩ := RC_scalar rx rfl rfl (by simp)
          obtain ⟨S, sub, _, hr, hs, rfl⟩ := hpt
          rw [off_nil] at e
          refine ⟨by simp [h1]; simp at e; rw [e, hr], fun j hj => ?_⟩
          rcases List.mem_cons.1 hj with rfl | hj
          · exact lx j (by simp [AV.ids])
          · exact h2 j hj
      | _ => rw [hx] at hl; cases hl
  obtain ⟨h1, h2⟩ := key caps.toList l hl
  refine does_pure h hd (v := .func (.func f) #[] (caps.map a.eval)) (by simp [execOp, ho, Instr.makeFunc, Array.eq_empty_of_size_eq_zero hfirst]) (RV_scalar (av := .fn f l) ?_ rfl rfl) (fun id hid => h2 id (by simpa [AV.ids] using hid)) _
  show _ = _
  have : caps.map a.eval = (l.map ρ).toArray := by
    apply Array.ext'
    simpa using h1
  rw [this]

theorem extract_RT {hp : Nat → Ob} : ∀ {u : AV} {vs : List Value} {i : Nat} {b : AV}, RT w st ρ hp u vs → extractAV u i = some b → ∃ v, vs[i]? = some v ∧ RV1 w st ρ hp b v
  | .tcons p q, vs, 0, b, ⟨v, r, e, h1, h2⟩, he => by cases he; exact ⟨v, by simp [e], h1⟩
  | .tcons p q, vs, i + 1, b, ⟨v, r, e, h1, h2⟩, he => by
    obtain ⟨x, hx, hb⟩ := extract_RT h2 he
    exact ⟨x, by simp [e, hx], hb⟩
  | .tnil, _, _, _, _, he => by simp [extractAV] at he

theorem extract_ids : ∀ {u : AV} {i : Nat} {b : AV} {id : Nat}, extractAV u i = some b → id ∈ b.ids → id ∈ u.ids
  | .tcons p q, 0, b, id, he, h => by cases he; simp [AV.ids, h]
  | .tcons p q, i + 1, b, id, he, h => by simp only [AV.ids, List.mem_append]; exact .inr (extract_ids he h)
  | .tnil, _, _, _, he, _ => by simp [extractAV] at he
  | .unk, _, _, _, he, _ => by simp [extractAV] at he
  | .val _ _, _, _, _, he, _ => by simp [extractAV] at he
  | .pair _ _, _, _, _, he, _ => by simp [extractAV] at he
  | .ptr _ _ _, _, _, _, he, _ => by simp [extractAV] at he
  | .sref _ _ _, _, _, _, he, _ => by simp [extractAV] at he
  | .nilv _ _, _, _, _, he, _ => by simp [extractAV] at he
  | .iptr _ _, _, _, _, he, _ => by simp [extractAV] at he
  | .nq _, _, _, _, he, _ => by simp [extractAV] at he
  | .fn _ _, _, _, _, he, _ => by simp [extractAV] at he

/-- No part of a tuple is a tuple: by its making. -/
def AV.okTup : AV → Bool
  | .tcons a b => !a.isTup && b.okTup
  | .tnil => true
  | _ => true

theorem does_extract {x : Operand} {i : Nat} (ho : o.op = .extract x i) (h : Sim w st ρ φ X.n a s) (hd : dstOk X o.dst = true) {u : AV} (hu : extractAV (rho X s.env 0 x) i = some u) (ht : u.isTup = false) :
    Does P X o w st ρ φ a s (.pure u) := by
  have rx := opnd_RV h 0 x
  rcases rx with ⟨_, vs, e, hr⟩ | ⟨hf, _⟩
  · obtain ⟨v, hv, hb⟩ := extract_RT hr hu
    refine does_pure h hd (v := v) ?_ (.inr ⟨ht, hb⟩) (fun id hid => opnd_ids h 0 x id (extract_ids hu hid)) _
    have : vs[i]? = some v := by rw [← Array.getElem?_toList]; exact hv
    simp [execOp, ho, Instr.extract, e, this]
  · cases hx : rho X s.env 0 x <;> rw [hx] at hu hf <;> simp [extractAV, AV.isTup] at hu hf

end
end Go.Vm
