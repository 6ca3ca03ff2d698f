/- The type table, checked by evaluation; lists of contracts. -/
import Derived.Test.YtkjimaolpijoiaaVm27
import Derived.KernelRfl
set_option linter.unusedVariables false
set_option linter.unusedSimpArgs false
namespace Go.Vm

def tyOf : List (Nat × Sh × Nat) → TypeId → Option (Sh × Nat)
  | [], _ => none
  | x :: r, T => bif Nat.beq x.1 T then some x.2 else tyOf r T

/-- Values of zero, told apart. -/
def zEq : Value → Value → Bool
  | .int k n, .int k' n' => decide (k = k') && decide (n = n')
  | .bool b, .bool b' => b == b'
  | .string s, .string s' => Nat.beq s.size 0 && Nat.beq s'.size 0
  | .slice none 0 0, .slice none 0 0 => true
  | _, _ => false

def zEqL : List Value → List Value → Bool
  | [], [] => true
  | a :: r, b :: s => zEq a b && zEqL r s
  | _, _ => false

theorem ba_empty {s : ByteArray} (h : s.size = 0) : s = ByteArray.empty := by
  cases s with
  | mk d =>
    have : d = #[] := Array.eq_empty_of_size_eq_zero h
    rw [this]; rfl

theorem zEq_iff {a b : Value} (h : zEq a b = true) : a = b := by
  unfold zEq at h
  split at h
  · simp only [Bool.and_eq_true, decide_eq_true_eq] at h; rw [h.1, h.2]
  · simp only [beq_iff_eq] at h; rw [h]
  · simp only [Bool.and_eq_true] at h
    rw [ba_empty (Nat.eq_of_beq_eq_true h.1), ba_empty (Nat.eq_of_beq_eq_true h.2)]
  · rfl
  · cases h

theorem zEqL_iff : ∀ {a b : List Value}, zEqL a b = true → a = b
  | [], [], _ => rfl
  | a :: r, b :: s, h => by
    simp only [zEqL, Bool.and_eq_true] at h
    rw [zEq_iff h.1, zEqL_iff h.2]
  | [], _ :: _, h => by cases h
  | _ :: _, [], h => by cases h

def zChk (S : Sh) (z : Value) : Bool :=
  bif S.isPair then (match z with | .agg cs => zEqL cs.toList S.zc | _ => false) else zEqL [z] S.zc

theorem zChk_VR {S : Sh} {z : Value} (h : zChk S z = true) : VR S z S.zc := by
  unfold zChk at h
  cases hp : S.isPair <;> rw [hp] at h
  · exact .inr ⟨hp, (zEqL_iff h).symm⟩
  · simp only [cond_true] at h
    split at h
    · exact .inl ⟨hp, by rw [← zEqL_iff h]⟩
    · cases h

def descChk (X : Ctx) : Sh → Nat → TypeDesc → Bool
  | .int k, _, .int k' => decide (k' = k)
  | .bool, _, .bool => true
  | .str, _, .string => true
  | .sl E e, _, .slice E' => Nat.beq E' E && (match X.ty E with | some (e', _) => decide (e' = e) | none => false)
  | .pair a b, nf, .struct fs => Nat.ble 2 nf && Nat.beq fs.size nf && (List.range nf).all fun j =>
      (match fs[j]?, (Sh.pair a b).sub (fp nf j) with
       | some f, some s => Nat.beq f.offset ((Sh.pair a b).off (fp nf j)) && (match X.ty f.type with | some (s', _) => decide (s' = s) | none => false)
       | _, _ => false)
  | _, _, _ => false

theorem descChk_ok {X : Ctx} {S : Sh} {nf : Nat} {d : TypeDesc} (h : descChk X S nf d = true) : Desc X S nf d := by
  unfold descChk at h
  split at h
  · simp only [decide_eq_true_eq] at h; subst h; exact rfl
  · exact rfl
  · exact rfl
  · simp only [Bool.and_eq_true] at h
    have hE := Nat.eq_of_beq_eq_true h.1
    subst hE
    refine ⟨rfl, ?_⟩
    have h2 := h.2
    split at h2
    · rename_i e' m he; simp only [decide_eq_true_eq] at h2; subst h2; exact ⟨m, he⟩
    · cases h2
  · simp only [Bool.and_eq_true, List.all_eq_true, List.mem_range, Nat.ble_eq] at h
    refine ⟨_, rfl, ⟨h.1.1, Nat.eq_of_beq_eq_true h.1.2⟩, fun j hj => ?_⟩
    have hj := h.2 j hj
    split at hj
    · rename_i f s hf hs
      simp only [Bool.and_eq_true] at hj
      have h2 := hj.2
      split at h2
      · rename_i s' m he
        simp only [decide_eq_true_eq] at h2; subst h2
        exact ⟨f, s', m, hf, hs, Nat.eq_of_beq_eq_true hj.1, he⟩
      · cases h2
    · cases hj
  · cases h

def eqChk (P : Program) (T : TypeId) (S : Sh) (nf : Nat) : TypeDesc → Bool
  | .struct fs => bif S.plain then !P.stoodInHeld T && !P.eqGuardType P.depth T && fs.toList.all (fun f => !(f.name == "_")) && Nat.beq fs.toList.length nf else true
  | _ => true

def tyChk1 (P : Program) (X : Ctx) (T : TypeId) (S : Sh) (nf : Nat) : Bool :=
  Nat.blt 0 S.size && Nat.blt S.dep 10000 && (S.isPair || Nat.beq nf 0) &&
  (match P.info? T with
   | some i => Nat.beq i.size S.size && Nat.ble i.bytes 32768 && (match i.zero with | some z => zChk S z | none => false)
   | none => false) &&
  (match P.underlying T with
   | some d => descChk X S nf d && eqChk P T S nf d
   | none => false)

theorem tyChk1_ok {P : Program} {X : Ctx} {T : TypeId} {S : Sh} {nf : Nat} (h : tyChk1 P X T S nf = true) : TyOk P X T S nf := by
  unfold tyChk1 at h
  simp only [Bool.and_eq_true] at h
  obtain ⟨⟨⟨⟨h1, h2⟩, h3⟩, h4⟩, h5⟩ := h
  refine ⟨by simpa [Nat.blt_eq] using h1, by simpa [Nat.blt_eq] using h2, fun hp => ?_, ?_, ?_, ?_⟩
  · rw [hp] at h3
    exact Nat.eq_of_beq_eq_true (by simpa using h3)
  · split at h4
    · rename_i i hi
      simp only [Bool.and_eq_true] at h4
      have h6 := h4.2
      split at h6
      · rename_i z hz
        exact ⟨i, hi, Nat.eq_of_beq_eq_true h4.1.1, Nat.le_of_ble_eq_true h4.1.2, z, hz, zChk_VR h6⟩
      · cases h6
    · cases h4
  · split at h5
    · rename_i d hd
      simp only [Bool.and_eq_true] at h5
      exact ⟨d, hd, descChk_ok h5.1⟩
    · cases h5
  · intro fs hfs hpl
    rw [hfs] at h5
    simp only [Bool.and_eq_true] at h5
    have h6 := h5.2
    unfold eqChk at h6
    simp only [hpl, cond_true, Bool.and_eq_true, Bool.not_eq_true', List.all_eq_true] at h6
    exact ⟨h6.1.1.1, h6.1.1.2, h6.1.2, Nat.eq_of_beq_eq_true h6.2⟩

def tyChk (P : Program) (X : Ctx) : List (Nat × Sh × Nat) → Bool
  | [] => true
  | x :: r => tyChk1 P X x.1 x.2.1 x.2.2 && tyChk P X r

theorem tyOf_mem {T : TypeId} {S : Sh} {nf : Nat} : ∀ {l : List (Nat × Sh × Nat)}, tyOf l T = some (S, nf) → (T, S, nf) ∈ l
  | [], h => by cases h
  | x :: r, h => by
    simp only [tyOf] at h
    cases hb : Nat.beq x.1 T <;> rw [hb] at h
    · exact List.mem_cons_of_mem _ (tyOf_mem h)
    · simp only [cond_true, Option.some.injEq] at h
      have := Nat.eq_of_beq_eq_true hb
      rw [← this, ← h]; exact List.mem_cons_self

theorem tyChk_mem {P : Program} {X : Ctx} : ∀ {l : List (Nat × Sh × Nat)}, tyChk P X l = true → ∀ x ∈ l, tyChk1 P X x.1 x.2.1 x.2.2 = true
  | y :: r, h, x, hx => by
    simp only [tyChk, Bool.and_eq_true] at h
    rcases List.mem_cons.1 hx with rfl | hx
    · exact h.1
    · exact tyChk_mem h.2 x hx

/-- A function's evaluation: its table of types, its callees, what it keeps at its loops, what it gives up. -/
def ctx (tys : List (Nat × Sh × Nat)) (n : Nat) (con : FuncId → List Con) (keep : List Bool → Keep) (fz : Nat → List Nat) : Ctx := ⟨n, tyOf tys, con, keep, fz⟩

theorem descChk_ty {X X' : Ctx} (h : X.ty = X'.ty) {S : Sh} {nf : Nat} {d : TypeDesc} : descChk X S nf d = descChk X' S nf d := by
  unfold descChk; rw [h]

theorem tyChk_ty {P : Program} {X X' : Ctx} (h : X.ty = X'.ty) : ∀ {l : List (Nat × Sh × Nat)}, tyChk P X l = tyChk P X' l
  | [] => rfl
  | x :: r => by
    simp only [tyChk]
    rw [tyChk_ty h]
    congr 1
    unfold tyChk1
    simp only [descChk_ty h]

theorem tyAll_of {P : Program} {tys : List (Nat × Sh × Nat)} (h : tyChk P (ctx tys 0 (fun _ => []) (fun _ => ⟨[], [], []⟩) fun _ => []) tys = true) (n : Nat) (con : FuncId → List Con) (keep : List Bool → Keep) (fz : Nat → List Nat) : TyAll P (ctx tys n con keep fz) := by
  intro T S nf hT
  have h' : tyChk P (ctx tys n con keep fz) tys = true := Eq.trans (tyChk_ty (X := ctx tys n con keep fz) (X' := ctx tys 0 (fun _ => []) (fun _ => ⟨[], [], []⟩) fun _ => []) rfl) h
  exact tyChk1_ok (tyChk_mem h' _ (tyOf_mem hT))

def conOf : List (Nat × Con) → FuncId → List Con
  | [], _ => []
  | x :: r, f => bif Nat.beq x.1 f then x.2 :: conOf r f else conOf r f

theorem conOf_mem {f : FuncId} {c : Con} : ∀ {l : List (Nat × Con)}, c ∈ conOf l f → (f, c) ∈ l
  | x :: r, h => by
    simp only [conOf] at h
    cases hb : Nat.beq x.1 f <;> rw [hb] at h
    · exact List.mem_cons_of_mem _ (conOf_mem h)
    · have := Nat.eq_of_beq_eq_true hb
      rcases List.mem_cons.1 h with rfl | h
      · rw [← this]; exact List.mem_cons_self
      · exact List.mem_cons_of_mem _ (conOf_mem h)

def ConsOk (P : Program) (l : List (Nat × Con)) : Prop := ∀ x ∈ l, Sound P x.1 x.2

theorem ConsOk.nil {P : Program} : ConsOk P [] := by simp [ConsOk]
theorem ConsOk.cons {P : Program} {f : FuncId} {c : Con} {l : List (Nat × Con)} (h : Sound P f c) (hl : ConsOk P l) : ConsOk P ((f, c) :: l) := fun x hx => by
  rcases List.mem_cons.1 hx with rfl | hx
  · exact h
  · exact hl x hx

/-- A function by its evaluation. -/
theorem sound {P : Program} {tys : List (Nat × Sh × Nat)} (hty : tyChk P (ctx tys 0 (fun _ => []) (fun _ => ⟨[], [], []⟩) fun _ => []) tys = true) (hmix : P.follows .mixedOrders = true)
    {f : FuncId} {fn : Func} (hfn : P.funcs[f]? = some fn) (hname : (fn.name == "runtime.NumGoroutine") = false) {c0 : Code} (hb : fn.body = some c0)
    {l : List (Nat × Con)} (hl : ConsOk P l) {n : Nat} {keep : List Bool → Keep} {fz : Nat → List Nat} (c : Con)
    (hev : ∀ x, c.pre x = true → ∃ k, evFn (ctx tys n (conOf l) keep fz) fn c.rs c.ps k x = some (c.fn x)) : Sound P f c :=
  sound_of (tyAll_of hty n (conOf l) keep fz) (fun g d hd => hl (g, d) (conOf_mem hd)) hmix hfn hb hname hev

end Go.Vm
