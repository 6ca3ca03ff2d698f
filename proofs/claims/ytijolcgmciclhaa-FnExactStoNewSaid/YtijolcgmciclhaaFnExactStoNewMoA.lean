/- What the functions are, in plain Lean, part 1. No condition. -/
import Derived.Test.YtijolcgmciclhaaFnExactStoNewVmC
set_option linter.unusedVariables false
set_option linter.unusedSimpArgs false
namespace Go.Vm

theorem Qcx {α : Type} (c : Bool) (a b : α) : (bif c then some a else some b) = some (bif c then a else b) := by cases c <;> rfl
theorem Qcy {α β : Type} (c : Bool) (a b : α) (z : β) : (bif c then (a, z) else (b, z)) = ((bif c then a else b), z) := by cases c <;> rfl
theorem Qb6 (c : Bool) : (bif c then false else true) = !c := by cases c <;> rfl
theorem Qdp (a b : Bool) : (bif a then b else false) = (a && b) := by cases a <;> rfl
theorem Qcz {α : Type} (c : Bool) (a b : α) : (bif !c then a else b) = (bif c then b else a) := by cases c <;> rfl
/-- A place within. -/
theorem Qas {i n : Nat} (h : i < n) : (bif decide ((0 : Int) <= (i : Int)) then decide ((i : Int) < (n : Int)) else false) = true := by
  rw [show decide ((0 : Int) <= (i : Int)) = true from decide_eq_true (by omega)]
  exact decide_eq_true (by omega)
theorem Qak {i n : Nat} (h : i < n) : decide ((i : Int) < (n : Int)) = true := decide_eq_true (by omega)
theorem Qaj {i n : Nat} (h : n <= i) : decide ((i : Int) < (n : Int)) = false := decide_eq_false (by omega)
theorem Qap {i : Nat} (h : i <= 4294967296) : w64 ((i : Int) + (1 : Int)) = ((i + 1 : Nat) : Int) := by
  rw [Qac (by omega) (by omega)]; omega

theorem Qaf {S : Sh} {xs r : List S.den} {x : S.den} {i : Nat} (h : xs.drop i = x :: r) : rdL (e := S) xs (i : Int) = x := by
  have h1 : xs[i]? = some x := by
    have := congrArg List.head? h
    rwa [List.head?_drop] at this
  unfold rdL
  rw [Int.toNat_natCast, List.getD_eq_getElem?_getD, h1]; rfl

theorem Qk9 {α : Type} {xs r : List α} {x : α} {i : Nat} (h : xs.drop i = x :: r) : xs.drop (i + 1) = r := by
  have : xs.drop (i + 1) = (xs.drop i).drop 1 := by rw [List.drop_drop]
  rw [this, h]; rfl

/-- A loop over a list's places: 'G': what it comes to, of what is left. -/
theorem Qdf {α σ β : Type} (xs : List α) (F : Nat -> Nat -> σ -> Option β) (G : List α -> Nat -> σ -> β) (Inv : Nat -> σ -> Prop)
    (hend : ∀ k s, Inv xs.length s -> F (k + 1) xs.length s = some (G [] xs.length s))
    (hstep : ∀ k i x r s, xs.drop i = x :: r -> i < xs.length -> Inv i s ->
      F (k + 1) i s = some (G (x :: r) i s) ∨ ∃ s', Inv (i + 1) s' /\ F (k + 1) i s = F k (i + 1) s' /\ G (x :: r) i s = G r (i + 1) s') :
    ∀ (m i : Nat) (s : σ), i + m = xs.length -> Inv i s -> F (m + 1) i s = some (G (xs.drop i) i s)
  | 0, i, s, h, hi => by
    have : i = xs.length := by omega
    subst this
    rw [List.drop_length]; exact hend 0 s hi
  | m + 1, i, s, h, hi => by
    have hlt : i < xs.length := by omega
    have hd := List.drop_eq_getElem_cons hlt
    rcases hstep (m + 1) i _ _ s hd hlt hi with h1 | ⟨s', h1, h2, h3⟩
    · rw [h1, hd]
    · rw [h2, hd, h3]
      exact Qdf xs F G Inv hend hstep m (i + 1) s' (by omega) h1

end Go.Vm

set_option linter.unusedVariables false
set_option linter.unusedSimpArgs false
namespace Go.Vm

abbrev MDec : Type := Int × Int
abbrev MAsk : Type := Int × MDec × MDec × Int
abbrev MSpc : Type := List MAsk × Int
abbrev MTst : Type := MAsk × Int × MDec × Int × List MDec
abbrev MSig : Type := Int × Int × Int
abbrev MBat : Type := Int × Int × List MTst × Int × List MSig × List Bool
abbrev MHou : Type := List Int × List MSpc × List MBat
abbrev MReq : Type := Int × Int × Int × Int × Int × MDec × List MAsk
def inq (n lo hi : Int) : Bool := decide (lo <= n) && decide (n <= hi)
theorem Qhc {n lo hi : Int} : inq n lo hi = true ↔ lo <= n /\ n <= hi := by simp [inq]

def pw (n : Int) : Int := 10 ^ n.toNat
def near (n d : Int) : Int := if n < 0 then -((2 * -n + d) / (2 * d)) else (2 * n + d) / (2 * d)
def decOk (d : MDec) : Bool := inq d.2 0 3 && inq d.1 (-9999 * pw d.2) (9999 * pw d.2)
/-- A decimal that is ok with so many places. -/
def atR (d : MDec) (p : Int) : MDec := if d.2 <= p then (d.1 * pw (p - d.2), p) else (near d.1 (pw (d.2 - p)), p)
def decAt (d : MDec) (p : Int) : MDec := bif decOk d && inq p 0 3 then atR d p else (0, 0)
def cmpI (x y : Int) : Int := if x < y then -1 else if y < x then 1 else 0
def decCmp (a b : MDec) : Int := bif decOk a && decOk b then cmpI (atR a 3).1 (atR b 3).1 else 0
def askOk (t : MAsk) : Bool := inq t.1 1 4 && (decOk t.2.1 && (decOk t.2.2.1 && (decide (decCmp t.2.1 t.2.2.1 <= 0) && inq t.2.2.2 0 3)))
def spcIn (t : MAsk) (v : MDec) : Bool := askOk t && (decOk v && (decide (decCmp t.2.1 (atR v t.2.2.2) <= 0) && decide (decCmp (atR v t.2.2.2) t.2.2.1 <= 0)))

def rises (p : Option Int) (n : Int) : Bool := match p with | none => true | some q => decide (q < n)
/-- All are ok, their numbers rise. -/
def asksOk : Option Int -> List MAsk -> Bool
  | _, [] => true
  | p, t :: r => askOk t && (rises p t.1 && asksOk (some t.1) r)
def testsOk (l : List MAsk) : Bool := inq l.length 1 4 && asksOk none l
end Go.Vm


set_option linter.unusedVariables false
set_option linter.unusedSimpArgs false
namespace Go.Vm

open Classical in
/-- Are they the same? -/
noncomputable def same {α : Type} (a b : α) : Bool := decide (a = b)
theorem Qa2 {α : Type} {a b : α} : same a b = true ↔ a = b := by unfold same; simp
theorem Qcl {α : Type} (a : α) : same a a = true := Qa2.2 rfl
theorem Qgr {α : Type} {a b : α} (h : a ≠ b) : same a b = false := by unfold same; simp [h]
theorem Qan (a b : Int) : decide (a = b) = same a b := by unfold same; congr
theorem Qah {α β : Type} (a a' : α) (b b' : β) : (same a a' && same b b') = same (a, b) (a', b') := by
  rw [Bool.eq_iff_iff, Bool.and_eq_true, Qa2, Qa2, Qa2, Prod.mk.injEq]

/-- A loop that compares. -/
theorem Qb7 {α : Type} (xs ys : List α) (hl : xs.length = ys.length) (F : Nat -> Nat -> Option (Bool × Unit)) (hend : ∀ k, F (k + 1) xs.length = some (true, ()))
    (hstep : ∀ k i x y r r', xs.drop i = x :: r -> ys.drop i = y :: r' -> i < xs.length -> i < ys.length -> F (k + 1) i = bif same x y then F k (i + 1) else some (false, ())) : F (xs.length + 1) 0 = some (same xs ys, ()) := by
  have := Qdf (σ := Unit) xs (fun k i _ => F k i) (fun l i _ => (same l (ys.drop i), ())) (fun _ _ => True) (fun k s _ => by
    rw [hend, hl, List.drop_length, Qcl]) (fun k i x r s hd hi _ => by
    have hd' := List.drop_eq_getElem_cons (show i < ys.length by omega)
    have h := hstep k i x _ r _ hd hd' hi (by omega)
    by_cases hs : same x ys[i] = true
    · refine .inr ⟨(), trivial, by show F (k + 1) i = _; rw [h, hs]; rfl, ?_⟩
      rw [hd']
      have : same (x :: r) (ys[i] :: ys.drop (i + 1)) = same r (ys.drop (i + 1)) := by
        rw [Bool.eq_iff_iff, Qa2, Qa2, List.cons.injEq]
        exact ⟨fun h => h.2, fun h' => ⟨Qa2.1 hs, h'⟩⟩
      rw [this]
    · refine .inl ?_
      show F (k + 1) i = _
      rw [h, Bool.eq_false_iff.2 hs, hd']
      have : same (x :: r) (ys[i] :: ys.drop (i + 1)) = false := Qgr fun e => hs (Qa2.2 (List.cons.inj e).1)
      rw [this]; rfl) xs.length 0 () (by omega) trivial
  simpa using this

/-- A loop that fills a row with what is made of each. -/
theorem Qly {α β : Type} (xs : List α) (f : α -> β) (F : Nat -> Nat -> List β -> Option (List β × Unit)) (hend : ∀ k out, out.length = xs.length -> F (k + 1) xs.length out = some (out, ()))
    (hstep : ∀ k i x r out, xs.drop i = x :: r -> i < xs.length -> out.length = xs.length -> F (k + 1) i out = F k (i + 1) (out.set i (f x))) (out : List β) (ho : out.length = xs.length) : F (xs.length + 1) 0 out = some (xs.map f, ()) := by
  have := Qdf (σ := List β) xs F (fun l i out => (out.take i ++ l.map f, ())) (fun i out => out.length = xs.length) (fun k s hs => by
    rw [hend k s hs, <- hs]; simp) (fun k i x r s hd hi hs => by
    refine .inr ⟨s.set i (f x), by simpa using hs, hstep k i x r s hd hi hs, ?_⟩
    have e : (s.set i (f x)).take (i + 1) = s.take i ++ [f x] := by
      rw [List.take_add_one, List.getElem?_set_self (by omega), List.take_set_of_le (Nat.le_refl _)]
      rfl
    rw [e]; simp) xs.length 0 out (by omega) ho
  simpa using this

/-- A loop that finds the first one. -/
def idxOf {α : Type} (p : α -> Bool) : List α -> Nat -> Int
  | [], _ => -1
  | x :: r, i => bif p x then (i : Int) else idxOf p r (i + 1)
theorem Qlz {α : Type} (xs : List α) (p : α -> Bool) (F : Nat -> Nat -> Option (Int × Unit)) (hend : ∀ k, F (k + 1) xs.length = some (-1, ()))
    (hstep : ∀ k i x r, xs.drop i = x :: r -> i < xs.length -> F (k + 1) i = bif p x then some ((i : Int), ()) else F k (i + 1)) : F (xs.length + 1) 0 = some (idxOf p xs 0, ()) := by
  have := Qdf (σ := Unit) xs (fun k i _ => F k i) (fun l i _ => (idxOf p l i, ())) (fun _ _ => True) (fun k s _ => hend k) (fun k i x r s hd hi _ => by
    have h := hstep k i x r hd hi
    cases hp : p x
    · exact .inr ⟨(), trivial, by show F (k + 1) i = _; rw [h, hp]; rfl, by simp [idxOf, hp]⟩
    · exact .inl (by show F (k + 1) i = _; rw [h, hp]; simp [idxOf, hp])) xs.length 0 () (by omega) trivial
  simpa using this

end Go.Vm

set_option linter.unusedVariables false
set_option linter.unusedSimpArgs false
namespace Go.Vm

/-! ### Sizes -/
/-! ### Specifications -/
def force : List MSpc -> Int
  | [] => 0
  | s :: r => (if s.2 = 2 then 1 else 0) + force r
def spcOk1 (s : MSpc) : Bool := testsOk s.1 && inq s.2 1 3
def spcsOk (l : List MSpc) : Bool := decide (l.length <= 6) && (l.all spcOk1 && decide (force l <= 1))
/-- How long lists may be. -/
def smA (l : List MAsk) : Bool := decide (l.length <= 4294967296)
def smS (l : List MSpc) : Bool := decide (l.length <= 4294967296) && l.all (fun s => smA s.1)
theorem Qjj {l : List MSpc} : smS l = true ↔ l.length <= 4294967296 /\ ∀ s ∈ l, s.1.length <= 4294967296 := by
  unfold smS smA; simp

theorem Qet {α : Type} {xs r : List α} {x : α} {i : Nat} (h : xs.drop i = x :: r) : x ∈ xs := List.mem_of_mem_drop (h ▸ List.mem_cons_self)
end Go.Vm

set_option linter.unusedVariables false
set_option linter.unusedSimpArgs false
namespace Go.Vm

theorem Qhu {α : Type} (p : α -> Bool) : ∀ (l : List α) (i : Nat), decide ((0 : Int) <= idxOf p l i) = l.any p
  | [], i => rfl
  | x :: r, i => by
    unfold idxOf
    cases hp : p x
    · simp only [cond_false, List.any_cons, hp, Bool.false_or]; exact Qhu p r (i + 1)
    · simp [hp]
theorem Qi7 {α : Type} (p : α -> Bool) (l : List α) : (!(l.any fun x => !p x)) = l.all p := by
  induction l with
  | nil => rfl
  | cons x r ih => simp only [List.any_cons, List.all_cons, <- ih]; cases p x <;> simp

def need (c : Int) : Int := if c = 1 then 1 else if c = 2 then 2 else 0
theorem Qmd (c : Int) : need c <= 2 := by unfold need; split <;> (try split) <;> omega
def sum3 : List MDec -> Int
  | [] => 0
  | d :: r => (atR d 3).1 + sum3 r
def decMean (l : List MDec) (p : Int) : MDec := bif inq l.length 1 100 && (l.all decOk && inq p 0 3) then (near (sum3 l) ((l.length : Int) * pw (3 - p)), p) else (0, 0)
def tell (t : MTst) : MDec := if t.2.2.2.1 = 1 then decAt (t.2.2.2.2.getD 0 (0, 0)) t.1.2.2.2 else if t.2.2.2.1 = 2 then decMean (t.2.2.1 :: t.2.2.2.2) t.1.2.2.2 else decAt t.2.2.1 t.1.2.2.2
def passes (t : MTst) : Bool := t.2.2.2.2.all (spcIn t.1) && spcIn t.1 (tell t)
def stateOf (t : MTst) : Int := if t.2.2.2.1 = 0 then (if spcIn t.1 t.2.2.1 = true then 3 else 1) else if t.2.2.2.1 = 3 then 4 else if (t.2.2.2.2.length : Int) < need t.2.2.2.1 then 2 else if passes t = true then 3 else 4
def tstOkA (t : MTst) : Bool := askOk t.1 && (decOk t.2.2.1 && (t.2.2.2.2.all decOk && (inq t.2.2.2.1 0 3 && decide ((t.2.2.2.2.length : Int) <= need t.2.2.2.1))))
noncomputable def tstOkB (t : MTst) : Bool := bif decide (t.2.1 = 0) then (same t.2.2.1 (0, 0) && decide (t.2.2.2.1 = 0)) else (decide (t.2.1 = stateOf t) && (decide (t.2.2.2.1 = 0) || !spcIn t.1 t.2.2.1))
noncomputable def tstOk (t : MTst) : Bool := tstOkA t && tstOkB t
/-- What the telling needs. -/
def tsPre (t : MTst) : Bool := askOk t.1 && (decOk t.2.2.1 && (t.2.2.2.2.all decOk && decide (t.2.2.2.2.length <= 2)))
theorem Qhv {t : MTst} : tsPre t = true ↔ askOk t.1 = true /\ decOk t.2.2.1 = true /\ t.2.2.2.2.all decOk = true /\ t.2.2.2.2.length <= 2 := by
  unfold tsPre; simp only [Bool.and_eq_true, decide_eq_true_eq]
theorem Ql0 {t : MTst} (h : tstOkA t = true) : tsPre t = true := by
  unfold tstOkA at h
  simp only [Bool.and_eq_true, decide_eq_true_eq] at h
  have := Qmd t.2.2.2.1
  exact Qhv.2 ⟨h.1, h.2.1, h.2.2.1, by have := h.2.2.2.2; omega⟩

end Go.Vm


set_option linter.unusedVariables false
set_option linter.unusedSimpArgs false
namespace Go.Vm
abbrev MRd : Type := List Int × Int
/-- A reader that may go on for so many steps. -/
def RdOk (c : Nat) (r : MRd) : Prop := (r.1.length <= 2000 /\ ∀ b ∈ r.1, 0 <= b /\ b <= 255) /\ 0 <= r.2 /\ r.2 + c <= 1000000
instance (c : Nat) (r : MRd) : Decidable (RdOk c r) := by unfold RdOk; infer_instance
theorem RdOk.mono {c d : Nat} {r : MRd} (h : RdOk c r) (hd : d <= c) : RdOk d r := ⟨h.1, h.2.1, by have := h.2.2; omega⟩
/-- A reader went on, at most so many steps. -/
def Step (c : Nat) (r r' : MRd) : Prop := r'.1 = r.1 /\ r.2 <= r'.2 /\ r'.2 <= r.2 + c
theorem Step.mono {c d : Nat} {r s : MRd} (h : Step c r s) (hd : c <= d) : Step d r s := ⟨h.1, h.2.1, by have := h.2.2; omega⟩
theorem Step.trans {c d : Nat} {r s t : MRd} (h : Step c r s) (h2 : Step d s t) : Step (c + d) r t := ⟨h2.1.trans h.1, Int.le_trans h.2.1 h2.2.1, by have := h.2.2; have := h2.2.2; omega⟩
theorem Step.ok {N c d : Nat} {r s : MRd} (h : Step c r s) (h0 : RdOk N r) (hc : c + d <= N) : RdOk d s :=
  ⟨by rw [h.1]; exact h0.1, Int.le_trans h0.2.1 h.2.1, by have := h.2.2; have := h0.2.2; omega⟩

end Go.Vm

set_option linter.unusedVariables false
set_option linter.unusedSimpArgs false
namespace Go.Vm

theorem places {p : Int} (h : 0 <= p /\ p <= 3) : p = 0 ∨ p = 1 ∨ p = 2 ∨ p = 3 := by omega
/-! ### Asks in order -/
end Go.Vm

set_option linter.unusedVariables false
set_option linter.unusedSimpArgs false
namespace Go.Vm
theorem Qgs {l : List MSpc} : spcsOk l = true ↔ l.length <= 6 /\ (∀ s ∈ l, spcOk1 s = true) /\ force l <= 1 := by
  unfold spcsOk; simp only [Bool.and_eq_true, decide_eq_true_eq, List.all_eq_true]
/-! ### What was raised -/
/-! ### Short lists of specifications -/
/-- At most so many, each short. -/
def SpI (i : Nat) (l : List MSpc) : Prop := l.length <= i /\ ∀ s ∈ l, s.1.length <= 5
def SpQ (l : List MSpc) : Prop := SpI 4 l
theorem SpI.nil : SpI 0 [] := ⟨Nat.le_refl _, fun _ h => by cases h⟩
theorem SpI.mono {i : Nat} {l : List MSpc} (h : SpI i l) : SpI (i + 1) l := ⟨by have := h.1; omega, h.2⟩
theorem SpI.q {i : Nat} {l : List MSpc} (h : SpI i l) (hi : i <= 4) : SpQ l := ⟨by have := h.1; omega, h.2⟩
theorem SpI.set {i : Nat} {l : List MSpc} (h : SpI i l) (k : Nat) (s : MSpc) (hs : s.1.length <= 5) : SpI i (l.set k s) := ⟨by rw [List.length_set]; exact h.1, fun y hy => by
  rcases List.mem_or_eq_of_mem_set hy with h1 | rfl
  · exact h.2 y h1
  · exact hs⟩
theorem SpI.getD {i : Nat} {l : List MSpc} (h : SpI i l) (k : Nat) : (l.getD k ([], 0)).1.length <= 5 := by
  rw [List.getD_eq_getElem?_getD]
  cases hk : l[k]? with
  | none => exact Nat.zero_le _
  | some s => exact h.2 s (List.mem_of_getElem? hk)
end Go.Vm

set_option linter.unusedVariables false
set_option linter.unusedSimpArgs false
namespace Go.Vm
theorem Qbt {α β : Type} (y : α × β) (a : α) (b : β) : same y (a, b) = (same y.1 a && same y.2 b) := (Qah _ _ _ _).symm
/-- Each in turn. -/
def markL {α : Type} (mk : α -> Int -> α × Int) : List α -> Int -> List α × Int
  | [], k => ([], k)
  | x :: r, k => ((mk x k).1 :: (markL mk r (mk x k).2).1, (markL mk r (mk x k).2).2)
/-- Is it marked from a number on? -/
noncomputable def hdOf {α : Type} (mk : α -> Int -> α × Int) (x : α) (k : Int) : Int := bif same x (mk x k).1 then (mk x k).2 else -1
/-- What a mark of one is: it goes on by so much, and hangs on the form alone. -/
structure MkOk {α : Type} (mk : α -> Int -> α × Int) (sz : α -> Nat) : Prop where
  go : ∀ x k, (mk x k).2 = k + sz x
  idem : ∀ x k, mk (mk x k).1 k = mk x k
def szL {α : Type} (sz : α -> Nat) : List α -> Nat
  | [] => 0
  | x :: r => sz x + szL sz r
theorem Qax {α : Type} {sz : α -> Nat} (h : ∀ x, 1 <= sz x) : ∀ l : List α, l.length <= szL sz l
  | [] => Nat.le_refl _
  | x :: r => by have h1 := Qax h r; have h2 := h x; show r.length + 1 <= sz x + szL sz r; omega
theorem Qgt {α : Type} {sz : α -> Nat} {c : Nat} : ∀ l : List α, (∀ x ∈ l, sz x <= c) -> szL sz l <= c * l.length
  | [], _ => Nat.zero_le _
  | x :: r, h => by
    have h1 := Qgt r fun y hy => h y (List.mem_cons_of_mem _ hy)
    have h2 := h x List.mem_cons_self
    show sz x + szL sz r <= c * (r.length + 1)
    rw [Nat.mul_add]; omega
theorem Qcm {α : Type} {c : Nat} (l : List α) : szL (fun _ => c) l = c * l.length := by
  induction l with
  | nil => rfl
  | cons y r ih => show c + szL _ r = c * (r.length + 1); rw [ih, Nat.mul_add]; omega
theorem Qhw {α : Type} (mk : α -> Int -> α × Int) : ∀ (l : List α) (k : Int), (markL mk l k).1.length = l.length
  | [], k => rfl
  | x :: r, k => by show (markL mk r (mk x k).2).1.length + 1 = r.length + 1; rw [Qhw mk r]
theorem MkOk.list {α : Type} {mk : α -> Int -> α × Int} {sz : α -> Nat} (h : MkOk mk sz) : MkOk (markL mk) (szL sz) where
  go := fun l => by
    induction l with
    | nil => intro k; show k = k + ((0 : Nat) : Int); omega
    | cons x r ih =>
      intro k
      show (markL mk r (mk x k).2).2 = k + ((sz x + szL sz r : Nat) : Int)
      rw [ih, h.go]; omega
  idem := fun l => by
    induction l with
    | nil => intro k; rfl
    | cons x r ih =>
      intro k
      show ((mk (mk x k).1 k).1 :: (markL mk (markL mk r (mk x k).2).1 (mk (mk x k).1 k).2).1, (markL mk (markL mk r (mk x k).2).1 (mk (mk x k).1 k).2).2) = _
      rw [h.idem, ih]; rfl
theorem MkOk.held {α : Type} {mk : α -> Int -> α × Int} {sz : α -> Nat} (h : MkOk mk sz) (x : α) (k : Int) : hdOf mk (mk x k).1 k = (mk x k).2 := by
  unfold hdOf
  rw [h.idem, Qcl]; rfl
theorem MkOk.hd {α : Type} {mk : α -> Int -> α × Int} {sz : α -> Nat} (h : MkOk mk sz) {x : α} {k : Int} (hk : 0 <= k) : (hdOf mk x k < 0 /\ hdOf mk x k = -1 /\ same x (mk x k).1 = false) ∨ (0 <= hdOf mk x k /\ hdOf mk x k = k + sz x /\ same x (mk x k).1 = true) := by
  unfold hdOf
  cases same x (mk x k).1
  · exact .inl ⟨show (-1 : Int) < 0 by decide, rfl, rfl⟩
  · have := h.go x k
    exact .inr ⟨by show 0 <= (mk x k).2; omega, this, rfl⟩
/-- What a mark of a thing needs. -/
def mkPre {α : Type} (sz : α -> Nat) (x : α) (k : Int) : Bool := decide (0 <= k) && decide (k + sz x <= 4294967296)
theorem Qab {α : Type} {sz : α -> Nat} {x : α} {k : Int} : mkPre sz x k = true ↔ 0 <= k /\ k + sz x <= 4294967296 := by unfold mkPre; simp only [Bool.and_eq_true, decide_eq_true_eq]
/-- A loop that marks each. -/
theorem Qbq {α β : Type} {mk : α -> Int -> α × Int} {sz : α -> Nat} (hgo : ∀ x k, (mk x k).2 = k + sz x) (l : List α) (B : Int) (Z : Int -> List α -> Option β) (F : Nat -> Nat -> Int -> List α -> Option β)
    (hend : ∀ k c out, out.length = l.length -> F (k + 1) l.length c out = Z c out)
    (hstep : ∀ k i x r c out, out.drop i = x :: r -> i < l.length -> out.length = l.length -> 0 <= c -> c + sz x <= B -> F (k + 1) i c out = F k (i + 1) (mk x c).2 (out.set i (mk x c).1))
    (c : Int) (hc : 0 <= c) (hB : c + szL sz l <= B) : F (l.length + 1) 0 c l = Z (markL mk l c).2 (markL mk l c).1 := by
  have go : ∀ (m : Nat) (pre rest : List α) (c : Int), rest.length = m -> pre.length + m = l.length -> 0 <= c -> c + szL sz rest <= B -> F (m + 1) pre.length c (pre ++ rest) = Z (markL mk rest c).2 (pre ++ (markL mk rest c).1) := by
    intro m
    induction m with
    | zero =>
      intro pre rest c h1 h2 _ _
      have : rest = [] := List.eq_nil_of_length_eq_zero h1
      subst this
      have h3 : pre.length = l.length := by omega
      rw [h3]
      exact hend 0 c _ (by rw [List.append_nil]; exact h3)
    | succ m ih =>
      intro pre rest c h1 h2 h3 h4
      cases rest with
      | nil => cases h1
      | cons x r =>
        have h5 : (szL sz (x :: r) : Int) = sz x + szL sz r := by show ((sz x + szL sz r : Nat) : Int) = _; omega
        have hd : (pre ++ x :: r).drop pre.length = x :: r := by rw [List.drop_left]
        rw [hstep (m + 1) pre.length x r c _ hd (by omega) (by rw [List.length_append]; omega) h3 (by omega)]
        have hs : (pre ++ x :: r).set pre.length (mk x c).1 = (pre ++ [(mk x c).1]) ++ r := by
          rw [List.set_append_right _ _ (Nat.le_refl _), Nat.sub_self, List.set_cons_zero]; simp
        have hl : (pre ++ [(mk x c).1]).length = pre.length + 1 := by rw [List.length_append]; rfl
        have h6 := hgo x c
        rw [hs, <- hl, ih (pre ++ [(mk x c).1]) r (mk x c).2 (by simpa using h1) (by rw [hl]; omega) (by omega) (by omega)]
        show Z _ ((pre ++ [(mk x c).1]) ++ (markL mk r (mk x c).2).1) = Z _ (pre ++ ((mk x c).1 :: (markL mk r (mk x c).2).1))
        rw [List.append_assoc]; rfl
  exact go l.length [] l c rfl (by simp) hc hB
/-- A loop that looks whether each is marked. -/
theorem Qbr {α : Type} {mk : α -> Int -> α × Int} {sz : α -> Nat} (h : MkOk mk sz) (l : List α) (B : Int) (F : Nat -> Nat -> Int -> Option (Int × Unit))
    (hend : ∀ k c, F (k + 1) l.length c = some (c, ()))
    (hstep : ∀ k i x r c, l.drop i = x :: r -> i < l.length -> 0 <= c -> c + sz x <= B -> F (k + 1) i c = bif same x (mk x c).1 then F k (i + 1) (mk x c).2 else some (-1, ()))
    (c : Int) (hc : 0 <= c) (hB : c + szL sz l <= B) : F (l.length + 1) 0 c = some (hdOf (markL mk) l c, ()) := by
  have e : ∀ (x : α) (r : List α) (c : Int), hdOf (markL mk) (x :: r) c = bif same x (mk x c).1 then hdOf (markL mk) r (mk x c).2 else -1 := by
    intro x r c
    unfold hdOf
    show (bif same (x :: r) ((mk x c).1 :: (markL mk r (mk x c).2).1) then (markL mk r (mk x c).2).2 else -1) = _
    have : same (x :: r) ((mk x c).1 :: (markL mk r (mk x c).2).1) = (same x (mk x c).1 && same r (markL mk r (mk x c).2).1) := by
      rw [Bool.eq_iff_iff, Bool.and_eq_true, Qa2, Qa2, Qa2, List.cons.injEq]
    rw [this]
    cases same x (mk x c).1 <;> rfl
  have := Qdf (σ := Int) l F (fun r i c => (hdOf (markL mk) r c, ())) (fun i c => 0 <= c /\ c + szL sz (l.drop i) <= B) (fun k c hc => by
    rw [hend k c]
    show _ = some ((bif same ([] : List α) [] then c else -1), ())
    rw [Qcl]; rfl) (fun k i x r c hd hi hc => by
    rw [hd] at hc
    have hsz : ((szL sz (x :: r) : Nat) : Int) = sz x + szL sz r := by show ((sz x + szL sz r : Nat) : Int) = _; omega
    have h1 := hstep k i x r c hd hi hc.1 (by omega)
    cases hs : same x (mk x c).1
    · refine .inl ?_
      rw [h1, hs, e, hs]; rfl
    · have hg := h.go x c
      refine .inr ⟨(mk x c).2, ⟨by omega, ?_⟩, by rw [h1, hs]; rfl, by rw [e, hs]; rfl⟩
      have : l.drop (i + 1) = r := Qk9 hd
      rw [this]; omega) l.length 0 c (by omega) ⟨hc, by rw [List.drop_zero]; exact hB⟩
  simpa using this
/-! ### The marks of things -/
def mkInt (t : Int) (k : Int) : Int × Int := (k, k + 1)
def mkDec (t : MDec) (k : Int) : MDec × Int := ((k, k + 1), k + 1 + 1)
def mkAsk (t : MAsk) (k : Int) : MAsk × Int := ((k, (k + 1, k + 1 + 1), (k + 1 + 1 + 1, k + 1 + 1 + 1 + 1), k + 1 + 1 + 1 + 1 + 1), k + 1 + 1 + 1 + 1 + 1 + 1)
def mkSig (t : MSig) (k : Int) : MSig × Int := ((k, k + 1, k + 1 + 1), k + 1 + 1 + 1)
def mkBool (t : Bool) (k : Int) : Bool × Int := (decide (Int.tmod k 3 = 0), k + 1)
theorem Qa5 : MkOk mkInt (fun _ => 1) := ⟨fun _ _ => rfl, fun _ _ => rfl⟩
theorem Qc0 : MkOk mkDec (fun _ => 2) := ⟨fun _ k => by show k + 1 + 1 = k + ((2 : Nat) : Int); omega, fun _ _ => rfl⟩
theorem Qa3 : MkOk mkAsk (fun _ => 6) := ⟨fun _ k => by show k + 1 + 1 + 1 + 1 + 1 + 1 = k + ((6 : Nat) : Int); omega, fun _ _ => rfl⟩
theorem Qc1 : MkOk mkSig (fun _ => 3) := ⟨fun _ k => by show k + 1 + 1 + 1 = k + ((3 : Nat) : Int); omega, fun _ _ => rfl⟩
theorem Qcn : MkOk mkBool (fun _ => 1) := ⟨fun _ _ => rfl, fun _ _ => rfl⟩
/-- A specification: its tests, then its state. -/
def mkSpc (t : MSpc) (k : Int) : MSpc × Int := (((markL mkAsk t.1 k).1, (markL mkAsk t.1 k).2), (markL mkAsk t.1 k).2 + 1)
def szS (t : MSpc) : Nat := szL (fun _ => 6) t.1 + 1
theorem Qcd : MkOk mkSpc szS where
  go := fun t k => by
    have := Qa3.list.go t.1 k
    show (markL mkAsk t.1 k).2 + 1 = k + ((szL (fun _ => 6) t.1 + 1 : Nat) : Int)
    omega
  idem := fun t k => by
    unfold mkSpc
    simp only [Qa3.list.idem]
theorem Qjk (t : MSpc) : 1 <= szS t := Nat.le_add_left _ _
/-- A test, of a batch: its leaves, then what was done again. -/
def mkTst (t : MTst) (k : Int) : MTst × Int :=
  ((((k, (k + 1, k + 1 + 1), (k + 1 + 1 + 1, k + 1 + 1 + 1 + 1), k + 1 + 1 + 1 + 1 + 1), k + 1 + 1 + 1 + 1 + 1 + 1, (k + 1 + 1 + 1 + 1 + 1 + 1 + 1, k + 1 + 1 + 1 + 1 + 1 + 1 + 1 + 1), k + 1 + 1 + 1 + 1 + 1 + 1 + 1 + 1 + 1, (markL mkDec t.2.2.2.2 (k + 1 + 1 + 1 + 1 + 1 + 1 + 1 + 1 + 1 + 1)).1) : MTst), (markL mkDec t.2.2.2.2 (k + 1 + 1 + 1 + 1 + 1 + 1 + 1 + 1 + 1 + 1)).2)
def szT (t : MTst) : Nat := 10 + szL (fun _ => 2) t.2.2.2.2
theorem Qc2 : MkOk mkTst szT where
  go := fun t k => by
    have := Qc0.list.go t.2.2.2.2 (k + 1 + 1 + 1 + 1 + 1 + 1 + 1 + 1 + 1 + 1)
    show (markL mkDec t.2.2.2.2 (k + 1 + 1 + 1 + 1 + 1 + 1 + 1 + 1 + 1 + 1)).2 = k + ((10 + szL (fun _ => 2) t.2.2.2.2 : Nat) : Int)
    omega
  idem := fun t k => by
    unfold mkTst
    simp only [Qc0.list.idem]
theorem Qjl (t : MTst) : 1 <= szT t := by unfold szT; omega
/-- A batch. -/
def mkBat (b : MBat) (k : Int) : MBat × Int :=
  (((k, k + 1, (markL mkTst b.2.2.1 (k + 1 + 1)).1, (markL mkTst b.2.2.1 (k + 1 + 1)).2, (markL mkSig b.2.2.2.2.1 ((markL mkTst b.2.2.1 (k + 1 + 1)).2 + 1)).1,
    (markL mkBool b.2.2.2.2.2 (markL mkSig b.2.2.2.2.1 ((markL mkTst b.2.2.1 (k + 1 + 1)).2 + 1)).2).1) : MBat),
    (markL mkBool b.2.2.2.2.2 (markL mkSig b.2.2.2.2.1 ((markL mkTst b.2.2.1 (k + 1 + 1)).2 + 1)).2).2)
def szB (b : MBat) : Nat := 3 + szL szT b.2.2.1 + szL (fun _ => 3) b.2.2.2.2.1 + szL (fun _ => 1) b.2.2.2.2.2
theorem Qce : MkOk mkBat szB where
  go := fun b k => by
    have h1 := Qc2.list.go b.2.2.1 (k + 1 + 1)
    have h2 := Qc1.list.go b.2.2.2.2.1 ((markL mkTst b.2.2.1 (k + 1 + 1)).2 + 1)
    have h3 := Qcn.list.go b.2.2.2.2.2 (markL mkSig b.2.2.2.2.1 ((markL mkTst b.2.2.1 (k + 1 + 1)).2 + 1)).2
    show (markL mkBool b.2.2.2.2.2 (markL mkSig b.2.2.2.2.1 ((markL mkTst b.2.2.1 (k + 1 + 1)).2 + 1)).2).2 = k + ((3 + szL szT b.2.2.1 + szL (fun _ => 3) b.2.2.2.2.1 + szL (fun _ => 1) b.2.2.2.2.2 : Nat) : Int)
    omega
  idem := fun b k => by
    unfold mkBat
    simp only [Qc2.list.idem, Qc1.list.idem, Qcn.list.idem]
theorem Qjm (b : MBat) : 1 <= szB b := by unfold szB; omega
end Go.Vm

set_option linter.unusedVariables false
set_option linter.unusedSimpArgs false
namespace Go.Vm
def mkT (a : MAsk) (f : MDec) (c : Int) (m : List MDec) : MTst := (a, stateOf (a, 0, f, c, m), f, c, m)
noncomputable def tstPut (t : MTst) (v : MDec) : MTst × Bool := bif tstOk t && (decide (t.2.1 = 0) && decOk v) then (mkT t.1 v t.2.2.2.1 t.2.2.2.2, true) else (t, false)
noncomputable def tstCause (t : MTst) (c : Int) : MTst × Bool := bif tstOk t && (decide (t.2.1 = 1) && inq c 1 3) then (mkT t.1 t.2.2.1 c t.2.2.2.2, true) else (t, false)
theorem Qla {t : MTst} : tstOk t = true ↔ tstOkA t = true /\ ((t.2.1 = 0 /\ t.2.2.1 = (0, 0) /\ t.2.2.2.1 = 0) ∨ (t.2.1 ≠ 0 /\ t.2.1 = stateOf t /\ (t.2.2.2.1 = 0 ∨ spcIn t.1 t.2.2.1 = false))) := by
  unfold tstOk tstOkB
  rw [Bool.and_eq_true]
  by_cases h : t.2.1 = 0
  · simp [h, Qa2]
  · simp [h]
/-! ### The turning, in short -/
end Go.Vm

set_option linter.unusedVariables false
set_option linter.unusedSimpArgs false
namespace Go.Vm
def mix (m n : Int) : Int := Int.tmod (m * 8191 + Int.tmod n 999983 + 999983 + 7) 999983
def markMore : Int -> List MDec -> Int
  | m, [] => m
  | m, v :: r => markMore (mix (mix m v.1) v.2) r
def markHead (m : Int) (t : MTst) : Int := mix (mix (mix (mix m t.2.1) t.2.2.1.1) t.2.2.1.2) t.2.2.2.1
def markTst (m : Int) (t : MTst) : Int := markMore (markHead m t) t.2.2.2.2
def markTsts : Int -> List MTst -> Int
  | m, [] => m
  | m, t :: r => markTsts (markTst m t) r
def markDev (m : Int) (i : Nat) (d : Bool) : Int := bif d then mix (mix m ((i + 1 : Nat) : Int)) 77 else mix m ((i + 1 : Nat) : Int)
def markDevs : Nat -> Int -> List Bool -> Int
  | _, m, [] => m
  | i, m, d :: r => markDevs (i + 1) (markDev m i d) r
def batMark (b : MBat) : Int := markDevs 0 (markTsts (mix 1 b.1) b.2.2.1) b.2.2.2.2.2
/-- The first who has signed in a role what is now, but for one. -/
def signedBy (mk role but : Int) : List MSig -> Int
  | [] => 0
  | s :: r => bif decide (s.2.1 = role) && (decide (s.2.2 = mk) && !decide (s.1 = but)) then s.1 else signedBy mk role but r
def batSigned (b : MBat) (role but : Int) : Int := signedBy (batMark b) role but b.2.2.2.2.1
def signs (r : Int) : Bool := decide (r = 2) || decide (r = 3)
def sigOk (s : MSig) : Bool := inq s.1 1 5 && (signs s.2.1 && inq s.2.2 0 999982)
def hand1 (b : MBat) (s : MSig) : Bool := decide (s.2.1 = 2) && (decide (s.2.2 = batMark b) && decide (0 < batSigned b 3 s.1))
def hands (b : MBat) : Bool := b.2.2.2.2.1.any (hand1 b)
def passed (t : MTst) : Bool := decide (t.2.1 = 3)
def shutAll (b : MBat) : Bool := b.2.2.1.all passed && b.2.2.2.2.2.all (!·)
def gate (b : MBat) : Bool := shutAll b && hands b
/-- All are ok, their numbers rise. -/
def riseL {α : Type} (ok : α -> Bool) (key : α -> Int) : Option Int -> List α -> Bool
  | _, [] => true
  | p, t :: r => ok t && (rises p (key t) && riseL ok key (some (key t)) r)
noncomputable def tstsOk (p : Option Int) (l : List MTst) : Bool := riseL tstOk (fun t => t.1.1) p l
noncomputable def batOkA (b : MBat) : Bool := inq b.1 0 5 && (inq b.2.1 1 10000 && (inq b.2.2.1.length 1 4 && (inq b.2.2.2.1 1 4 && (tstsOk none b.2.2.1 && (decide (b.2.2.2.2.1.length <= 6) && (b.2.2.2.2.1.all sigOk && decide (b.2.2.2.2.2.length <= 3)))))))
/-- Free, or was. -/
def freed (s : Int) : Bool := decide (s = 2) || decide (s = 4)
noncomputable def batOk (b : MBat) : Bool := batOkA b && (!freed b.2.2.2.1 || gate b)
def newT (a : MAsk) : MTst := (a, 0, (0, 0), 0, [])
end Go.Vm

set_option linter.unusedVariables false
set_option linter.unusedSimpArgs false
namespace Go.Vm
/-! ### Requests -/
/-! ### Houses -/
def rolesOk (l : List Int) : Bool := inq l.length 1 5 && l.all (inq · 1 4)
def sigIn (roles : List Int) (s : MSig) : Bool := decide (s.1 <= (roles.length : Int)) && decide (roles.getD (s.1 - 1).toNat 0 = s.2.1)
def spc0 : MSpc := ([], 0)
noncomputable def batIn (roles : List Int) (specs : List MSpc) (b : MBat) : Bool :=
  batOk b && (decide (b.1 < (specs.length : Int)) && (!decide ((specs.getD b.1.toNat spc0).2 = 1) && (same (b.2.2.1.map (·.1)) (specs.getD b.1.toNat spc0).1 && b.2.2.2.2.1.all (sigIn roles))))
noncomputable def houOk (h : MHou) : Bool := rolesOk h.1 && (spcsOk h.2.1 && (decide (h.2.2.length <= 4) && h.2.2.all (batIn h.1 h.2.1)))
def hou0 : MHou := ([], [], [])
end Go.Vm

set_option linter.unusedVariables false
set_option linter.unusedSimpArgs false
namespace Go.Vm
theorem MkOk.size {α : Type} {mk : α -> Int -> α × Int} {sz : α -> Nat} (h : MkOk mk sz) (x : α) (k : Int) : sz (mk x k).1 = sz x := by
  have h1 := h.go x k
  have h2 := h.go (mk x k).1 k
  rw [h.idem] at h2
  omega
theorem MkOk.pre {α : Type} {mk : α -> Int -> α × Int} {sz : α -> Nat} (h : MkOk mk sz) {x : α} {k : Int} (hp : mkPre sz x k = true) : mkPre sz (mk x k).1 k = true := by
  unfold mkPre at hp ⊢
  rw [h.size]; exact hp
theorem MkOk.pos {α : Type} {mk : α -> Int -> α × Int} {sz : α -> Nat} (h : MkOk mk sz) {x : α} {k : Int} (hp : 0 <= k) : decide ((mk x k).2 < 0) = false := by
  have := h.go x k
  exact decide_eq_false (by omega)
end Go.Vm

set_option linter.unusedVariables false
set_option linter.unusedSimpArgs false
namespace Go.Vm
theorem Qhx {t : MTst} (h : tstOk t = true) : t.2.2.2.2.length <= 2 := (Qhv.1 (Ql0 (Qla.1 h).1)).2.2.2
/-- A test is made again from its results. -/
noncomputable def again (t : MTst) : MTst := (if t.2.2.2.1 = 0 then (tstPut (newT t.1) t.2.2.1).1 else (tstCause (tstPut (newT t.1) t.2.2.1).1 t.2.2.2.1).1)
end Go.Vm

set_option linter.unusedVariables false
set_option linter.unusedSimpArgs false
namespace Go.Vm
/-! ### Batches -/
def smB (b : MBat) : Bool := decide (b.2.2.1.length <= 4294967296) && (b.2.2.1.all (fun t => decide (t.2.2.2.2.length <= 4294967296)) && (decide (b.2.2.2.2.1.length <= 4294967296) && decide (b.2.2.2.2.2.length <= 4294967296)))
theorem Qjn {b : MBat} : smB b = true ↔ b.2.2.1.length <= 4294967296 /\ (∀ t ∈ b.2.2.1, t.2.2.2.2.length <= 4294967296) /\ b.2.2.2.2.1.length <= 4294967296 /\ b.2.2.2.2.2.length <= 4294967296 := by
  unfold smB; simp only [Bool.and_eq_true, decide_eq_true_eq, List.all_eq_true]
end Go.Vm

set_option linter.unusedVariables false
set_option linter.unusedSimpArgs false
namespace Go.Vm
theorem Qfs {l : List MAsk} (h : testsOk l = true) : 1 <= l.length /\ l.length <= 4 := by
  unfold testsOk at h
  have := Qhc.1 (Bool.and_eq_true_iff.1 h).1
  omega
end Go.Vm

set_option linter.unusedVariables false
set_option linter.unusedSimpArgs false
namespace Go.Vm
def sigsOk (b : MBat) : Bool := b.2.2.2.2.1.all sigOk
/-! ### What a batch that is ok has -/
theorem Qhy {b : MBat} : batOk b = true ↔ ((0 <= b.1 /\ b.1 <= 5) /\ (1 <= b.2.1 /\ b.2.1 <= 10000) /\ (1 <= b.2.2.1.length /\ b.2.2.1.length <= 4) /\ (1 <= b.2.2.2.1 /\ b.2.2.2.1 <= 4) /\ tstsOk none b.2.2.1 = true /\ b.2.2.2.2.1.length <= 6 /\ sigsOk b = true /\ b.2.2.2.2.2.length <= 3) /\ (freed b.2.2.2.1 = true -> gate b = true) := by
  unfold batOk batOkA sigsOk
  simp only [Bool.and_eq_true, Bool.or_eq_true, Qhc, decide_eq_true_eq, Bool.not_eq_true']
  constructor
  · rintro ⟨⟨h1, h2, h3, h4, h5, h6, h7, h8⟩, h9⟩
    exact ⟨⟨h1, h2, by omega, h4, h5, h6, h7, h8⟩, fun hf => h9.resolve_left (by rw [hf]; decide)⟩
  · rintro ⟨⟨h1, h2, h3, h4, h5, h6, h7, h8⟩, h9⟩
    refine ⟨⟨h1, h2, by omega, h4, h5, h6, h7, h8⟩, ?_⟩
    cases hf : freed b.2.2.2.1
    · exact .inl rfl
    · exact .inr (h9 hf)
theorem Qf5 {α : Type} {ok : α -> Bool} {key : α -> Int} : ∀ {l : List α} {p : Option Int}, riseL ok key p l = true -> l.all ok = true
  | [], _, _ => rfl
  | t :: r, p, h => by
    unfold riseL at h
    simp only [Bool.and_eq_true] at h
    rw [List.all_cons, h.1, Qf5 h.2.2]; rfl
theorem Qlb {b : MBat} (h : batOk b = true) : smB b = true := by
  obtain ⟨⟨_, _, h3, _, h5, h6, _, h8⟩, _⟩ := Qhy.1 h
  refine Qjn.2 ⟨by omega, fun t ht => ?_, by omega, by omega⟩
  have := Qhx (List.all_eq_true.1 (Qf5 h5) t ht)
  omega
end Go.Vm

set_option linter.unusedVariables false
set_option linter.unusedSimpArgs false
namespace Go.Vm
def houSm (h : MHou) : Bool := decide (h.1.length <= 4294967296) && (smS h.2.1 && (decide (h.2.2.length <= 4294967296) && h.2.2.all smB))
theorem Qhz {h : MHou} : houSm h = true ↔ h.1.length <= 4294967296 /\ smS h.2.1 = true /\ h.2.2.length <= 4294967296 /\ ∀ b ∈ h.2.2, smB b = true := by
  unfold houSm; simp only [Bool.and_eq_true, decide_eq_true_eq, List.all_eq_true]
theorem Qe9 {h : MHou} : houOk h = true ↔ rolesOk h.1 = true /\ spcsOk h.2.1 = true /\ h.2.2.length <= 4 /\ ∀ b ∈ h.2.2, batIn h.1 h.2.1 b = true := by
  unfold houOk; simp only [Bool.and_eq_true, decide_eq_true_eq, List.all_eq_true]
theorem Qef {l : List Int} : rolesOk l = true ↔ (1 <= l.length /\ l.length <= 5) /\ ∀ o ∈ l, inq o 1 4 = true := by
  unfold rolesOk; simp only [Bool.and_eq_true, List.all_eq_true, Qhc]
  constructor
  · rintro ⟨h1, h2⟩; exact ⟨by omega, h2⟩
  · rintro ⟨h1, h2⟩; exact ⟨by omega, h2⟩
theorem Qh0 {ro : List Int} {sp : List MSpc} {b : MBat} : batIn ro sp b = true ↔ batOk b = true /\ b.1 < (sp.length : Int) /\ (sp.getD b.1.toNat spc0).2 ≠ 1 /\ b.2.2.1.map (·.1) = (sp.getD b.1.toNat spc0).1 /\ ∀ s ∈ b.2.2.2.2.1, sigIn ro s = true := by
  unfold batIn; simp only [Bool.and_eq_true, decide_eq_true_eq, Bool.not_eq_true', decide_eq_false_iff_not, Qa2, List.all_eq_true]
theorem Ql1 {h : MHou} (hk : houOk h = true) : houSm h = true := by
  obtain ⟨h1, h2, h3, h4⟩ := Qe9.1 hk
  have h1 := (Qef.1 h1).1
  obtain ⟨g1, g2, _⟩ := Qgs.1 h2
  refine Qhz.2 ⟨by omega, Qjj.2 ⟨by omega, fun s hs => ?_⟩, by omega, fun b hb => Qlb (Qh0.1 (h4 b hb)).1⟩
  have := g2 s hs
  unfold spcOk1 at this
  have := Qfs (Bool.and_eq_true_iff.1 this).1
  omega
end Go.Vm

set_option linter.unusedVariables false
set_option linter.unusedSimpArgs false
namespace Go.Vm
/-- What a turning of a batch leaves. -/
structure TurnOk (b b' : MBat) (u o : Int) : Prop where
  ok : batOk b' = true
  spec : b'.1 = b.1
  boxes : b'.2.1 = b.2.1
  asks : b'.2.2.1.map (·.1) = b.2.2.1.map (·.1)
  sigs : ∀ s ∈ b'.2.2.2.2.1, s ∈ b.2.2.2.2.1 ∨ (s.1 = u /\ s.2.1 = o)
end Go.Vm


set_option linter.unusedVariables false
set_option linter.unusedSimpArgs false
namespace Go.Vm
/-! ### Sizes -/
/-- A house. -/
def mkHou (h : MHou) (k : Int) : MHou × Int :=
  (((markL mkInt h.1 k).1, (markL mkSpc h.2.1 (markL mkInt h.1 k).2).1, (markL mkBat h.2.2 (markL mkSpc h.2.1 (markL mkInt h.1 k).2).2).1),
    (markL mkBat h.2.2 (markL mkSpc h.2.1 (markL mkInt h.1 k).2).2).2)
def szH (h : MHou) : Nat := szL (fun _ => 1) h.1 + szL szS h.2.1 + szL szB h.2.2
theorem Qd3 : MkOk mkHou szH where
  go := fun h k => by
    have h1 := Qa5.list.go h.1 k
    have h2 := Qcd.list.go h.2.1 (markL mkInt h.1 k).2
    have h3 := Qce.list.go h.2.2 (markL mkSpc h.2.1 (markL mkInt h.1 k).2).2
    show (markL mkBat h.2.2 (markL mkSpc h.2.1 (markL mkInt h.1 k).2).2).2 = k + ((szL (fun _ => 1) h.1 + szL szS h.2.1 + szL szB h.2.2 : Nat) : Int)
    omega
  idem := fun h k => by
    unfold mkHou
    simp only [Qa5.list.idem, Qcd.list.idem, Qce.list.idem]
/-- Same, field by field. -/
theorem Qay {s t : Bool} {X : Option (Bool × Unit)} (h : X = some (t, ())) : (bif (bif s then false else true) then (some (false, ())) else X) = some (s && t, ()) := by
  cases s
  · rfl
  · exact h
theorem Qgu (a b : MHou) : (same a.1 b.1 && (same a.2.1 b.2.1 && (same a.2.2 b.2.2 && true))) = same a b := by
  rw [Bool.and_true, Qah, Qah]
end Go.Vm

set_option linter.unusedVariables false
set_option linter.unusedSimpArgs false
namespace Go.Vm
theorem Qml {t : MTst} (h : tstOk t = true) : szT t <= 14 := by
  have := Qhx h
  unfold szT
  rw [Qcm]; omega
theorem Qmm {b : MBat} (h : batOk b = true) : szB b <= 80 := by
  obtain ⟨⟨_, _, h3, _, h5, h6, _, h8⟩, _⟩ := Qhy.1 h
  have h1 := Qgt (sz := szT) (c := 14) b.2.2.1 fun t ht => Qml (List.all_eq_true.1 (Qf5 h5) t ht)
  unfold szB
  rw [Qcm, Qcm]
  have : 14 * b.2.2.1.length <= 14 * 4 := Nat.mul_le_mul_left _ h3.2
  omega
theorem Qmn {s : MSpc} (h : spcOk1 s = true) : szS s <= 25 := by
  unfold spcOk1 at h
  have := Qfs (Bool.and_eq_true_iff.1 h).1
  unfold szS
  rw [Qcm]; omega
theorem Qmo {h : MHou} (hk : houOk h = true) : szH h <= 475 := by
  obtain ⟨h1, h2, h3, h4⟩ := Qe9.1 hk
  have h1 := (Qef.1 h1).1
  obtain ⟨g1, g2, _⟩ := Qgs.1 h2
  have k1 := Qgt (sz := szS) (c := 25) h.2.1 fun s hs => Qmn (g2 s hs)
  have k2 := Qgt (sz := szB) (c := 80) h.2.2 fun b hb => Qmm (Qh0.1 (h4 b hb)).1
  unfold szH
  rw [Qcm]
  have : 25 * h.2.1.length <= 25 * 6 := Nat.mul_le_mul_left _ g1
  have : 80 * h.2.2.length <= 80 * 4 := Nat.mul_le_mul_left _ h3
  omega
end Go.Vm

set_option linter.unusedVariables false
set_option linter.unusedSimpArgs false
namespace Go.Vm
abbrev MAud : Type := MReq × Int
abbrev MSes : Type := Bool × MReq × Int × Int
abbrev MSto : Type := MHou × List Int × List MAud × List MSes
def req0 : MReq := (0, 0, 0, 0, 0, (0, 0), [])
def ses0 : MSes := (false, req0, 0, 0)
def houNew (l : List Int) : MHou := bif rolesOk l then (l, [], []) else hou0
def sto0 : MSto := (hou0, [], [], [])
def stoNew (l : List Int) : MSto := bif rolesOk l then ((l, [], []), List.replicate 5 0, [], List.replicate 4 ses0) else sto0
/-- A session. -/
def mkSes (s : MSes) (k : Int) : MSes × Int :=
  ((decide (Int.tmod k 3 = 0), (k + 1, k + 1 + 1, k + 1 + 1 + 1, k + 1 + 1 + 1 + 1, k + 1 + 1 + 1 + 1 + 1, (k + 1 + 1 + 1 + 1 + 1 + 1, k + 1 + 1 + 1 + 1 + 1 + 1 + 1), (markL mkAsk s.2.1.2.2.2.2.2.2 (k + 1 + 1 + 1 + 1 + 1 + 1 + 1 + 1)).1),
    (markL mkAsk s.2.1.2.2.2.2.2.2 (k + 1 + 1 + 1 + 1 + 1 + 1 + 1 + 1)).2, (markL mkAsk s.2.1.2.2.2.2.2.2 (k + 1 + 1 + 1 + 1 + 1 + 1 + 1 + 1)).2 + 1),
    (markL mkAsk s.2.1.2.2.2.2.2.2 (k + 1 + 1 + 1 + 1 + 1 + 1 + 1 + 1)).2 + 1 + 1)
def szSe (s : MSes) : Nat := 10 + szL (fun _ => 6) s.2.1.2.2.2.2.2.2
theorem Qcf : MkOk mkSes szSe where
  go := fun s k => by
    have := Qa3.list.go s.2.1.2.2.2.2.2.2 (k + 1 + 1 + 1 + 1 + 1 + 1 + 1 + 1)
    show (markL mkAsk s.2.1.2.2.2.2.2.2 (k + 1 + 1 + 1 + 1 + 1 + 1 + 1 + 1)).2 + 1 + 1 = k + ((10 + szL (fun _ => 6) s.2.1.2.2.2.2.2.2 : Nat) : Int)
    omega
  idem := fun s k => by
    unfold mkSes
    simp only [Qa3.list.idem]
theorem Qiw (s : MSes) : 1 <= szSe s := by unfold szSe; omega
/-- A line of the audit. -/
def mkAud (s : MAud) (k : Int) : MAud × Int :=
  (((k, k + 1, k + 1 + 1, k + 1 + 1 + 1, k + 1 + 1 + 1 + 1, (k + 1 + 1 + 1 + 1 + 1, k + 1 + 1 + 1 + 1 + 1 + 1), (markL mkAsk s.1.2.2.2.2.2.2 (k + 1 + 1 + 1 + 1 + 1 + 1 + 1)).1),
    (markL mkAsk s.1.2.2.2.2.2.2 (k + 1 + 1 + 1 + 1 + 1 + 1 + 1)).2), (markL mkAsk s.1.2.2.2.2.2.2 (k + 1 + 1 + 1 + 1 + 1 + 1 + 1)).2 + 1)
def szAu (s : MAud) : Nat := 8 + szL (fun _ => 6) s.1.2.2.2.2.2.2
theorem Qd4 : MkOk mkAud szAu where
  go := fun s k => by
    have := Qa3.list.go s.1.2.2.2.2.2.2 (k + 1 + 1 + 1 + 1 + 1 + 1 + 1)
    show (markL mkAsk s.1.2.2.2.2.2.2 (k + 1 + 1 + 1 + 1 + 1 + 1 + 1)).2 + 1 = k + ((8 + szL (fun _ => 6) s.1.2.2.2.2.2.2 : Nat) : Int)
    omega
  idem := fun s k => by
    unfold mkAud
    simp only [Qa3.list.idem]
/-- A store. -/
def mkSto (s : MSto) (k : Int) : MSto × Int :=
  (((mkHou s.1 k).1, (markL mkInt s.2.1 (mkHou s.1 k).2).1, (markL mkAud s.2.2.1 (markL mkInt s.2.1 (mkHou s.1 k).2).2).1, (markL mkSes s.2.2.2 (markL mkAud s.2.2.1 (markL mkInt s.2.1 (mkHou s.1 k).2).2).2).1),
    (markL mkSes s.2.2.2 (markL mkAud s.2.2.1 (markL mkInt s.2.1 (mkHou s.1 k).2).2).2).2)
def szSt (s : MSto) : Nat := szH s.1 + szL (fun _ => 1) s.2.1 + szL szAu s.2.2.1 + szL szSe s.2.2.2
theorem Qf6 : MkOk mkSto szSt where
  go := fun s k => by
    have h1 := Qd3.go s.1 k
    have h2 := Qa5.list.go s.2.1 (mkHou s.1 k).2
    have h3 := Qd4.list.go s.2.2.1 (markL mkInt s.2.1 (mkHou s.1 k).2).2
    have h4 := Qcf.list.go s.2.2.2 (markL mkAud s.2.2.1 (markL mkInt s.2.1 (mkHou s.1 k).2).2).2
    show (markL mkSes s.2.2.2 (markL mkAud s.2.2.1 (markL mkInt s.2.1 (mkHou s.1 k).2).2).2).2 = k + ((szH s.1 + szL (fun _ => 1) s.2.1 + szL szAu s.2.2.1 + szL szSe s.2.2.2 : Nat) : Int)
    omega
  idem := fun s k => by
    unfold mkSto
    simp only [Qd3.idem, Qa5.list.idem, Qd4.list.idem, Qcf.list.idem]
theorem Qgv (a b : MSto) : (same a.1 b.1 && (same a.2.1 b.2.1 && (same a.2.2.1 b.2.2.1 && (same a.2.2.2 b.2.2.2 && true)))) = same a b := by
  rw [Bool.and_true, Qah, Qah, Qah]
/-- What a store needs to be looked at. -/
def smSes (s : MSes) : Bool := smA s.2.1.2.2.2.2.2.2
def stoSm (s : MSto) : Bool := houSm s.1 && (decide (s.2.1.length <= 4294967296) && (decide (s.2.2.1.length = 0) && (decide (s.2.2.2.length <= 4294967296) && s.2.2.2.all smSes)))
theorem Qfa (l : List Int) : (rolesOk l = true /\ stoNew l = ((l, [], []), List.replicate 5 0, [], List.replicate 4 ses0)) ∨ (rolesOk l = false /\ stoNew l = sto0) := by
  unfold stoNew
  cases rolesOk l
  · exact .inr ⟨rfl, rfl⟩
  · exact .inl ⟨rfl, rfl⟩
theorem Qlc {l : List Int} (h : rolesOk l = true) : houOk (l, [], []) = true := Qe9.2 ⟨h, rfl, Nat.zero_le _, fun b hb => by cases hb⟩
theorem Qix (l : List Int) : stoSm (stoNew l) = true /\ mkPre szSt (stoNew l) 1 = true := by
  rcases Qfa l with ⟨h, e⟩ | ⟨h, e⟩
  · rw [e]
    have h1 := Qlc h
    have h2 := Ql1 h1
    have h3 := Qmo h1
    refine ⟨?_, Qab.2 ⟨by decide, ?_⟩⟩
    · unfold stoSm
      show (houSm (l, [], []) && true) = true
      rw [h2]; rfl
    · show (1 : Int) + ((szH (l, [], []) + 5 + 0 + 40 : Nat) : Int) <= _
      omega
  · rw [e]; exact ⟨rfl, rfl⟩
/-- A loop that says whether all are so, and comes to one of two. -/
theorem Qld {α β : Type} (xs : List α) (p : α -> Bool) (a b : β) (F : Nat -> Nat -> Option β) (hend : xs.all p = true -> ∃ k, F k xs.length = some a)
    (hstep : ∀ k i x r, xs.drop i = x :: r -> i < xs.length -> F (k + 1) i = bif p x then F k (i + 1) else some b) : ∃ k, F k 0 = some (bif xs.all p then a else b) := by
  have go : ∀ (m i : Nat), i + m = xs.length -> (xs.take i).all p = true -> ∃ k, F k i = some (bif (xs.drop i).all p then a else b) := by
    intro m
    induction m with
    | zero =>
      intro i h ha
      have : i = xs.length := by omega
      subst this
      rw [List.take_length] at ha
      rw [List.drop_length]
      exact hend ha
    | succ m ih =>
      intro i h ha
      have hi : i < xs.length := by omega
      have hd := List.drop_eq_getElem_cons hi
      cases hp : p xs[i]
      · refine ⟨1, ?_⟩
        rw [hstep 0 i _ _ hd hi, hd, hp, List.all_cons, hp]; rfl
      · obtain ⟨k, hk⟩ := ih (i + 1) (by omega) (by
          rw [List.take_succ_eq_append_getElem hi, List.all_append, ha]
          simp [hp])
        refine ⟨k + 1, ?_⟩
        rw [hstep k i _ _ hd hi, hd, hp, hk, List.all_cons, hp]; rfl
  simpa using go xs.length 0 (by omega) (by simp)
end Go.Vm
