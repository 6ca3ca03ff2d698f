/- What the functions are, in plain Lean, part 1. No condition. -/
import Derived.Test.YtmbmoenjhfkgkaaGreatFnExactBatTestVmC
set_option linter.unusedVariables false
set_option linter.unusedSimpArgs false
namespace Go.Vm

theorem Qby {α : Type} (c : Bool) (a b : α) : (bif c then some a else some b) = some (bif c then a else b) := by cases c <;> rfl
theorem Qbz {α β : Type} (c : Bool) (a b : α) (z : β) : (bif c then (a, z) else (b, z)) = ((bif c then a else b), z) := by cases c <;> rfl
theorem Qbl (c : Bool) : (bif c then false else true) = !c := by cases c <;> rfl
theorem Qcd (a b : Bool) : (bif a then b else false) = (a && b) := by cases a <;> rfl
theorem Qdt {α : Type} (c : Bool) (a b : α) : (bif !c then a else b) = (bif c then b else a) := by cases c <;> rfl
/-- A place within. -/
theorem Qae {i n : Nat} (h : i < n) : (bif decide ((0 : Int) <= (i : Int)) then decide ((i : Int) < (n : Int)) else false) = true := by
  rw [show decide ((0 : Int) <= (i : Int)) = true from decide_eq_true (by omega)]
  exact decide_eq_true (by omega)
theorem Qaf {i n : Nat} (h : i < n) : decide ((i : Int) < (n : Int)) = true := decide_eq_true (by omega)
theorem Qad {i n : Nat} (h : n <= i) : decide ((i : Int) < (n : Int)) = false := decide_eq_false (by omega)
theorem Qag {i : Nat} (h : i <= 4294967296) : w64 ((i : Int) + (1 : Int)) = ((i + 1 : Nat) : Int) := by
  rw [Qac (by omega) (by omega)]; omega

theorem Qab {S : Sh} {xs r : List S.den} {x : S.den} {i : Nat} (h : xs.drop i = x :: r) : rdL (e := S) xs (i : Int) = x := by
  have h1 : xs[i]? = some x := by
    have := congrArg List.head? h
    rwa [List.head?_drop] at this
  unfold rdL
  rw [Int.toNat_natCast, List.getD_eq_getElem?_getD, h1]; rfl

theorem Qok {S : Sh} {xs : List S.den} {i : Nat} (h : i < xs.length) : rdL (e := S) xs (i : Int) = xs[i] := by
  unfold rdL
  rw [Int.toNat_natCast, List.getD_eq_getElem?_getD, List.getElem?_eq_getElem h]; rfl

theorem Qio {α : Type} {xs r : List α} {x : α} {i : Nat} (h : xs.drop i = x :: r) : xs.drop (i + 1) = r := by
  have : xs.drop (i + 1) = (xs.drop i).drop 1 := by rw [List.drop_drop]
  rw [this, h]; rfl

/-- A loop over a list's places: 'G': what it comes to, of what is left. -/
theorem Qaw {α σ β : Type} (xs : List α) (F : Nat -> Nat -> σ -> Option β) (G : List α -> Nat -> σ -> β) (Inv : Nat -> σ -> Prop)
    (hend : ∀ k s, Inv xs.length s -> F (k + 1) xs.length s = some (G [] xs.length s))
    (hstep : ∀ k i x r s, xs.drop i = x :: r -> i < xs.length -> Inv i s ->
      F (k + 1) i s = some (G (x :: r) i s) ∨ ∃ s', Inv (i + 1) s' /\ F (k + 1) i s = F k (i + 1) s' /\ G (x :: r) i s = G r (i + 1) s') :
    ∀ (m i : Nat) (s : σ), i + m = xs.length -> Inv i s -> F (m + 1) i s = some (G (xs.drop i) i s)
  | 0, i, s, h, hi => by
    have : i = xs.length := by omega
    subst this
    rw [List.drop_length]; exact hend 0 s hi
  | m + 1, i, s, h, hi => by
    have hlt : i < xs.length := by omega
    have hd := List.drop_eq_getElem_cons hlt
    rcases hstep (m + 1) i _ _ s hd hlt hi with h1 | ⟨s', h1, h2, h3⟩
    · rw [h1, hd]
    · rw [h2, hd, h3]
      exact Qaw xs F G Inv hend hstep m (i + 1) s' (by omega) h1

/-- A loop that counts: 'G': what it comes to, from a place on. -/
theorem Qe4 {σ β : Type} (n : Nat) (F : Nat -> Nat -> σ -> Option β) (G : Nat -> σ -> β) (Inv : Nat -> σ -> Prop)
    (hend : ∀ k s, Inv n s -> F (k + 1) n s = some (G n s))
    (hstep : ∀ k i s, i < n -> Inv i s -> F (k + 1) i s = some (G i s) ∨ ∃ s', Inv (i + 1) s' /\ F (k + 1) i s = F k (i + 1) s' /\ G i s = G (i + 1) s') :
    ∀ (m i : Nat) (s : σ), i + m = n -> Inv i s -> F (m + 1) i s = some (G i s)
  | 0, i, s, h, hi => by
    have : i = n := by omega
    subst this; exact hend 0 s hi
  | m + 1, i, s, h, hi => by
    rcases hstep (m + 1) i s (by omega) hi with h1 | ⟨s', h1, h2, h3⟩
    · exact h1
    · rw [h2, h3]; exact Qe4 n F G Inv hend hstep m (i + 1) s' (by omega) h1
end Go.Vm

set_option linter.unusedVariables false
set_option linter.unusedSimpArgs false
namespace Go.Vm

abbrev MDec : Type := Int × Int
abbrev MAsk : Type := Int × MDec × MDec × Int
abbrev MSpc : Type := List MAsk × Int
abbrev MTst : Type := MAsk × Int × MDec × Int × List MDec
abbrev MSig : Type := Int × Int × Int
abbrev MBat : Type := Int × Int × List MTst × Int × List MSig × List Bool
abbrev MReq : Type := Int × Int × Int × Int × Int × MDec × List MAsk
def inq (n lo hi : Int) : Bool := decide (lo <= n) && decide (n <= hi)
theorem Qap {n lo hi : Int} : inq n lo hi = true ↔ lo <= n /\ n <= hi := by simp [inq]

def pw (n : Int) : Int := 10 ^ n.toNat
theorem Qea (n : Int) : 0 < pw n := by unfold pw; exact Int.pow_pos (by decide)
theorem pw_le {n : Int} (h : n <= 3) : pw n <= 1000 := by
  unfold pw
  by_cases h0 : n < 0
  · rw [Int.toNat_of_nonpos (by omega)]; decide
  · have : n = 0 ∨ n = 1 ∨ n = 2 ∨ n = 3 := by omega
    rcases this with rfl | rfl | rfl | rfl <;> decide

def near (n d : Int) : Int := if n < 0 then -((2 * -n + d) / (2 * d)) else (2 * n + d) / (2 * d)
def decOk (d : MDec) : Bool := inq d.2 0 3 && inq d.1 (-9999 * pw d.2) (9999 * pw d.2)
theorem Qft {d : MDec} : decOk d = true ↔ (0 <= d.2 /\ d.2 <= 3) /\ -9999 * pw d.2 <= d.1 /\ d.1 <= 9999 * pw d.2 := by
  unfold decOk; rw [Bool.and_eq_true, Qap, Qap]
theorem Qmx {d : MDec} (h : decOk d = true) : -9999000 <= d.1 /\ d.1 <= 9999000 := by
  obtain ⟨⟨h1, h2⟩, h3, h4⟩ := Qft.1 h
  have := pw_le h2
  have := Qea d.2
  omega

def nrPre (n d : Int) : Bool := decide (-1000000000000000 <= n) && decide (n <= 1000000000000000) && (decide (1 <= d) && decide (d <= 1000000000000000))
theorem Qbu {n d : Int} : nrPre n d = true ↔ (-1000000000000000 <= n /\ n <= 1000000000000000) /\ 1 <= d /\ d <= 1000000000000000 := by
  unfold nrPre; simp only [Bool.and_eq_true, decide_eq_true_eq]

/-- A decimal that is ok with so many places. -/
def atR (d : MDec) (p : Int) : MDec := if d.2 <= p then (d.1 * pw (p - d.2), p) else (near d.1 (pw (d.2 - p)), p)
def decAt (d : MDec) (p : Int) : MDec := bif decOk d && inq p 0 3 then atR d p else (0, 0)
def cmpI (x y : Int) : Int := if x < y then -1 else if y < x then 1 else 0
def decCmp (a b : MDec) : Int := bif decOk a && decOk b then cmpI (atR a 3).1 (atR b 3).1 else 0
def askOk (t : MAsk) : Bool := inq t.1 1 4 && (decOk t.2.1 && (decOk t.2.2.1 && (decide (decCmp t.2.1 t.2.2.1 <= 0) && inq t.2.2.2 0 3)))
def spcIn (t : MAsk) (v : MDec) : Bool := askOk t && (decOk v && (decide (decCmp t.2.1 (atR v t.2.2.2) <= 0) && decide (decCmp (atR v t.2.2.2) t.2.2.1 <= 0)))

def rises (p : Option Int) (n : Int) : Bool := match p with | none => true | some q => decide (q < n)
end Go.Vm

set_option linter.unusedVariables false
set_option linter.unusedSimpArgs false
namespace Go.Vm

theorem Qe5 {n : Int} (h : n <= 3) : pw n = 1 ∨ pw n = 10 ∨ pw n = 100 ∨ pw n = 1000 := by
  unfold pw
  by_cases h0 : n < 0
  · rw [Int.toNat_of_nonpos (by omega)]; exact .inl rfl
  · have : n = 0 ∨ n = 1 ∨ n = 2 ∨ n = 3 := by omega
    rcases this with rfl | rfl | rfl | rfl
    · exact .inl rfl
    · exact .inr (.inl rfl)
    · exact .inr (.inr (.inl rfl))
    · exact .inr (.inr (.inr rfl))

theorem p_decOk (d : MDec) : (bif inq d.2 0 3 then (bif decide (d.2 <= 18) then (bif decide (d.2 <= 18) then some (inq d.1 (w64 ((-9999 : Int) * pw d.2)) (w64 ((9999 : Int) * pw d.2)), ()) else none) else none) else some (false, ())) = some (decOk d, ()) := by
  unfold decOk
  cases h : inq d.2 0 3
  · rfl
  · obtain ⟨h1, h2⟩ := Qap.1 h
    have h3 := pw_le h2
    have h4 := Qea d.2
    rw [decide_eq_true (show d.2 <= 18 by omega), Qac (by omega) (by omega), Qac (by omega) (by omega)]
    rfl

theorem p_atR {d : MDec} {p : Int} (hd : decOk d = true) (hp : inq p 0 3 = true) :
    (bif decide (d.2 <= p) then (bif decide (w64 (p - d.2) <= 18) then some ((w64 (d.1 * pw (w64 (p - d.2))), p), ()) else none) else (bif decide (w64 (d.2 - p) <= 18) then (bif nrPre d.1 (pw (w64 (d.2 - p))) then some ((near d.1 (pw (w64 (d.2 - p))), p), ()) else none) else none)) = some (atR d p, ()) := by
  obtain ⟨⟨h1, h2⟩, h3, h4⟩ := Qft.1 hd
  obtain ⟨h5, h6⟩ := Qap.1 hp
  obtain ⟨b1, b2⟩ := Qmx hd
  rw [Qac (x := p - d.2) (by omega) (by omega), Qac (x := d.2 - p) (by omega) (by omega), decide_eq_true (show p - d.2 <= 18 by omega), decide_eq_true (show d.2 - p <= 18 by omega)]
  unfold atR
  by_cases h : d.2 <= p
  · rw [decide_eq_true h, if_pos h, Qac]
    · rfl
    · rcases Qe5 (n := p - d.2) (by omega) with e | e | e | e <;> rw [e] <;> omega
    · rcases Qe5 (n := p - d.2) (by omega) with e | e | e | e <;> rw [e] <;> omega
  · rw [decide_eq_false h, if_neg h]
    have : nrPre d.1 (pw (d.2 - p)) = true := Qbu.2 ⟨⟨by omega, by omega⟩, by have := Qea (d.2 - p); omega, by have := pw_le (n := d.2 - p) (by omega); omega⟩
    rw [this]; rfl

theorem p_decAt (d : MDec) (p : Int) (z : Option (MDec × Unit)) (hz : decOk d = true -> inq p 0 3 = true -> z = some (atR d p, ())) :
    (bif (bif decOk d then false else true) then some (((0 : Int), (0 : Int)), ()) else (bif (bif inq p 0 3 then false else true) then some (((0 : Int), (0 : Int)), ()) else z)) = some (decAt d p, ()) := by
  unfold decAt
  cases h1 : decOk d
  · rfl
  · cases h2 : inq p 0 3
    · rfl
    · exact hz h1 h2

theorem p_decCmp (a b : MDec) (z : Option (Int × Unit)) (hz : decOk a = true -> decOk b = true -> z = some (cmpI (atR a 3).1 (atR b 3).1, ())) :
    (bif (bif decOk a then false else true) then some ((0 : Int), ()) else (bif (bif decOk b then false else true) then some ((0 : Int), ()) else z)) = some (decCmp a b, ()) := by
  unfold decCmp
  cases h1 : decOk a
  · rfl
  · cases h2 : decOk b
    · rfl
    · exact hz h1 h2

theorem p_cmpI (x y : Int) : (bif decide (x < y) then some ((-1 : Int), ()) else (bif decide (y < x) then some ((1 : Int), ()) else some ((0 : Int), ()))) = some (cmpI x y, ()) := by
  unfold cmpI
  by_cases h : x < y
  · rw [decide_eq_true h, if_pos h]; rfl
  · rw [decide_eq_false h, if_neg h]
    by_cases h2 : y < x
    · rw [decide_eq_true h2, if_pos h2]; rfl
    · rw [decide_eq_false h2, if_neg h2]; rfl

theorem in03 : inq (3 : Int) 0 3 = true := rfl
theorem Qgw {t : MAsk} (h : askOk t = true) : inq t.2.2.2 0 3 = true := by
  unfold askOk at h
  simp only [Bool.and_eq_true] at h
  exact h.2.2.2.2

theorem p_spcIn (t : MAsk) (v : MDec) (z : Option (Bool × Unit)) (hz : askOk t = true -> decOk v = true -> z = some (decide (decCmp t.2.1 (atR v t.2.2.2) <= 0) && decide (decCmp (atR v t.2.2.2) t.2.2.1 <= 0), ())) :
    (bif (bif askOk t then false else true) then some (false, ()) else (bif (bif decOk v then false else true) then some (false, ()) else z)) = some (spcIn t v, ()) := by
  unfold spcIn
  cases h1 : askOk t
  · rfl
  · cases h2 : decOk v
    · rfl
    · exact hz h1 h2
end Go.Vm

set_option linter.unusedVariables false
set_option linter.unusedSimpArgs false
namespace Go.Vm

/-- How long a list that came in may be. -/
def okLen (n : Nat) : Bool := decide (n <= 9223372036854775807)
theorem Qbv {n : Nat} : okLen n = true ↔ n <= 9223372036854775807 := by unfold okLen; simp

open Classical in
/-- Are they the same? -/
noncomputable def same {α : Type} (a b : α) : Bool := decide (a = b)
theorem Qa4 {α : Type} {a b : α} : same a b = true ↔ a = b := by unfold same; simp
theorem Qb7 {α : Type} (a : α) : same a a = true := Qa4.2 rfl
theorem Qhl {α : Type} {a b : α} (h : a ≠ b) : same a b = false := by unfold same; simp [h]
theorem Qa0 (a b : Int) : decide (a = b) = same a b := by unfold same; congr
theorem Qax {α β : Type} (a a' : α) (b b' : β) : (same a a' && same b b') = same (a, b) (a', b') := by
  rw [Bool.eq_iff_iff, Bool.and_eq_true, Qa4, Qa4, Qa4, Prod.mk.injEq]

/-- A loop that compares. -/
theorem Qf0 {α : Type} (xs ys : List α) (hl : xs.length = ys.length) (F : Nat -> Nat -> Option (Bool × Unit)) (hend : ∀ k, F (k + 1) xs.length = some (true, ()))
    (hstep : ∀ k i x y r r', xs.drop i = x :: r -> ys.drop i = y :: r' -> i < xs.length -> i < ys.length -> F (k + 1) i = bif same x y then F k (i + 1) else some (false, ())) : F (xs.length + 1) 0 = some (same xs ys, ()) := by
  have := Qaw (σ := Unit) xs (fun k i _ => F k i) (fun l i _ => (same l (ys.drop i), ())) (fun _ _ => True) (fun k s _ => by
    rw [hend, hl, List.drop_length, Qb7]) (fun k i x r s hd hi _ => by
    have hd' := List.drop_eq_getElem_cons (show i < ys.length by omega)
    have h := hstep k i x _ r _ hd hd' hi (by omega)
    by_cases hs : same x ys[i] = true
    · refine .inr ⟨(), trivial, by show F (k + 1) i = _; rw [h, hs]; rfl, ?_⟩
      rw [hd']
      have : same (x :: r) (ys[i] :: ys.drop (i + 1)) = same r (ys.drop (i + 1)) := by
        rw [Bool.eq_iff_iff, Qa4, Qa4, List.cons.injEq]
        exact ⟨fun h => h.2, fun h' => ⟨Qa4.1 hs, h'⟩⟩
      rw [this]
    · refine .inl ?_
      show F (k + 1) i = _
      rw [h, Bool.eq_false_iff.2 hs, hd']
      have : same (x :: r) (ys[i] :: ys.drop (i + 1)) = false := Qhl fun e => hs (Qa4.2 (List.cons.inj e).1)
      rw [this]; rfl) xs.length 0 () (by omega) trivial
  simpa using this

/-- A loop that fills a row with what is made of each. -/
theorem Qe6 {α β : Type} (xs : List α) (f : α -> β) (F : Nat -> Nat -> List β -> Option (List β × Unit)) (hend : ∀ k out, out.length = xs.length -> F (k + 1) xs.length out = some (out, ()))
    (hstep : ∀ k i x r out, xs.drop i = x :: r -> i < xs.length -> out.length = xs.length -> F (k + 1) i out = F k (i + 1) (out.set i (f x))) (out : List β) (ho : out.length = xs.length) : F (xs.length + 1) 0 out = some (xs.map f, ()) := by
  have := Qaw (σ := List β) xs F (fun l i out => (out.take i ++ l.map f, ())) (fun i out => out.length = xs.length) (fun k s hs => by
    rw [hend k s hs, <- hs]; simp) (fun k i x r s hd hi hs => by
    refine .inr ⟨s.set i (f x), by simpa using hs, hstep k i x r s hd hi hs, ?_⟩
    have e : (s.set i (f x)).take (i + 1) = s.take i ++ [f x] := by
      rw [List.take_add_one, List.getElem?_set_self (by omega), List.take_set_of_le (Nat.le_refl _)]
      rfl
    rw [e]; simp) xs.length 0 out (by omega) ho
  simpa using this

/-- A loop that finds the first one. -/
def idxOf {α : Type} (p : α -> Bool) : List α -> Nat -> Int
  | [], _ => -1
  | x :: r, i => bif p x then (i : Int) else idxOf p r (i + 1)
theorem Qcn {α : Type} (xs : List α) (p : α -> Bool) (F : Nat -> Nat -> Option (Int × Unit)) (hend : ∀ k, F (k + 1) xs.length = some (-1, ()))
    (hstep : ∀ k i x r, xs.drop i = x :: r -> i < xs.length -> F (k + 1) i = bif p x then some ((i : Int), ()) else F k (i + 1)) : F (xs.length + 1) 0 = some (idxOf p xs 0, ()) := by
  have := Qaw (σ := Unit) xs (fun k i _ => F k i) (fun l i _ => (idxOf p l i, ())) (fun _ _ => True) (fun k s _ => hend k) (fun k i x r s hd hi _ => by
    have h := hstep k i x r hd hi
    cases hp : p x
    · exact .inr ⟨(), trivial, by show F (k + 1) i = _; rw [h, hp]; rfl, by simp [idxOf, hp]⟩
    · exact .inl (by show F (k + 1) i = _; rw [h, hp]; simp [idxOf, hp])) xs.length 0 () (by omega) trivial
  simpa using this

/-- A loop that says whether all are so. -/
theorem Qjy {α : Type} (xs : List α) (p : α -> Bool) (z : Bool) (F : Nat -> Nat -> Option (Bool × Unit)) (hend : ∀ k, F (k + 1) xs.length = some (z, ()))
    (hstep : ∀ k i x r, xs.drop i = x :: r -> i < xs.length -> F (k + 1) i = bif p x then F k (i + 1) else some (false, ())) : F (xs.length + 1) 0 = some (xs.all p && z, ()) := by
  have := Qaw (σ := Unit) xs (fun k i _ => F k i) (fun l i _ => (l.all p && z, ())) (fun _ _ => True) (fun k s _ => by rw [hend k]; simp) (fun k i x r s hd hi _ => by
    have h := hstep k i x r hd hi
    cases hp : p x
    · exact .inl (by show F (k + 1) i = _; rw [h, hp]; simp [hp])
    · exact .inr ⟨(), trivial, by show F (k + 1) i = _; rw [h, hp]; rfl, by simp [hp]⟩) xs.length 0 () (by omega) trivial
  simpa using this

theorem Qkt {S : Sh} {xs : List S.den} (j : Nat) (hj : j < xs.length) : some (rdL (e := S) xs (j : Int)) = xs[j]? := by
  rw [Qok hj, List.getElem?_eq_getElem hj]
end Go.Vm

set_option linter.unusedVariables false
set_option linter.unusedSimpArgs false
namespace Go.Vm

/-! ### Sizes -/
def szGo {α : Type} (f : α -> Int -> Int) : List α -> Int -> Int
  | [], l => l
  | x :: r, l => if f x l < 0 then -1 else szGo f r (f x l)
def szList {α : Type} (f : α -> Int -> Int) (xs : List α) (left : Int) : Int := if left < (xs.length : Int) then -1 else szGo f xs (left - (xs.length : Int))
/-- What is left is no more than there was. -/
def Dec1 {α : Type} (f : α -> Int -> Int) : Prop := ∀ x l, 0 <= l -> f x l <= l

theorem Qku {α : Type} {f : α -> Int -> Int} (hf : Dec1 f) : ∀ {xs : List α} {l : Int}, 0 <= l -> szGo f xs l <= l
  | [], l, h => Int.le_refl _
  | x :: r, l, h => by
    unfold szGo
    split
    · omega
    · exact Int.le_trans (Qku hf (by omega)) (hf x l h)
theorem Qjz {α : Type} {f : α -> Int -> Int} (hf : Dec1 f) {P : α -> Prop} (hP : ∀ x l, l <= 1048576 -> 0 <= f x l -> P x) : ∀ {xs : List α} {l : Int}, 0 <= l -> l <= 1048576 -> 0 <= szGo f xs l -> ∀ x ∈ xs, P x
  | [], l, h, h1, h2, x, hx => by cases hx
  | y :: r, l, h, h1, h2, x, hx => by
    unfold szGo at h2
    split at h2
    · omega
    · rcases List.mem_cons.1 hx with rfl | hx
      · exact hP _ l h1 (by omega)
      · exact Qjz hf hP (by omega) (Int.le_trans (hf y l h) h1) h2 x hx
theorem Qip {α : Type} {f : α -> Int -> Int} (hf : Dec1 f) {xs : List α} {l : Int} (h : 0 <= l) : szList f xs l <= l := by
  unfold szList
  split
  · omega
  · exact Int.le_trans (Qku hf (by omega)) (by omega)
theorem Qln {α : Type} {f : α -> Int -> Int} (hf : Dec1 f) {P : α -> Prop} (hP : ∀ x l, l <= 1048576 -> 0 <= f x l -> P x) {xs : List α} {l : Int} (h1 : l <= 1048576) (h2 : 0 <= szList f xs l) : xs.length <= 1048576 /\ ∀ x ∈ xs, P x := by
  unfold szList at h2
  split at h2
  · omega
  · exact ⟨by omega, Qjz hf hP (by omega) (by omega) h2⟩

theorem Qn5 {α : Type} (xs : List α) (f : α -> Int -> Int) (hf : Dec1 f) (F : Nat -> Nat -> Int -> Option (Int × Unit)) (hend : ∀ k l, F (k + 1) xs.length l = some (l, ()))
    (hstep : ∀ k i x r l, xs.drop i = x :: r -> i < xs.length -> 0 <= l -> l <= 1048576 -> F (k + 1) i l = bif decide (f x l < 0) then some (-1, ()) else F k (i + 1) (f x l)) (l : Int) (h0 : 0 <= l) (h1 : l <= 1048576) : F (xs.length + 1) 0 l = some (szGo f xs l, ()) := by
  have := Qaw (σ := Int) xs F (fun r i l => (szGo f r l, ())) (fun i l => 0 <= l /\ l <= 1048576) (fun k s _ => hend k s) (fun k i x r s hd hi hs => by
    have h := hstep k i x r s hd hi hs.1 hs.2
    by_cases hp : f x s < 0
    · exact .inl (by rw [h, decide_eq_true hp]; simp [szGo, hp])
    · exact .inr ⟨f x s, ⟨by omega, Int.le_trans (hf x s hs.1) hs.2⟩, by rw [h, decide_eq_false hp]; rfl, by simp [szGo, hp]⟩) xs.length 0 l (by omega) ⟨h0, h1⟩
  simpa using this

theorem p_sz0 {n : Nat} {l : Int} {X : Option (Int × Unit)} {z : Int} (hn : n <= 9223372036854775807) (h0 : 0 <= l) (h1 : l <= 1048576) (hX : (n : Int) <= l -> X = some (z, ())) :
    (bif (decide ((w64 (l - (n : Int))) < (0 : Int))) then (some ((-1 : Int), ())) else X) = some (if l < (n : Int) then -1 else z, ()) := by
  rw [Qac (by omega) (by omega)]
  by_cases h : l < n
  · rw [if_pos h, decide_eq_true (by omega)]; rfl
  · rw [if_neg h, decide_eq_false (by omega)]; exact hX (by omega)

/-! ### Specifications -/
theorem Qbt {α : Type} {xs r : List α} {x : α} {i : Nat} (h : xs.drop i = x :: r) : x ∈ xs := List.mem_of_mem_drop (h ▸ List.mem_cons_self)
end Go.Vm

set_option linter.unusedVariables false
set_option linter.unusedSimpArgs false
namespace Go.Vm

theorem Qb8 {α : Type} (p : α -> Bool) : ∀ (l : List α) (i : Nat), decide ((0 : Int) <= idxOf p l i) = l.any p
  | [], i => rfl
  | x :: r, i => by
    unfold idxOf
    cases hp : p x
    · simp only [cond_false, List.any_cons, hp, Bool.false_or]; exact Qb8 p r (i + 1)
    · simp [hp]
theorem Qcj {α : Type} (p : α -> Bool) (l : List α) : (!(l.any fun x => !p x)) = l.all p := by
  induction l with
  | nil => rfl
  | cons x r ih => simp only [List.any_cons, List.all_cons, <- ih]; cases p x <;> simp

def need (c : Int) : Int := if c = 1 then 1 else if c = 2 then 2 else 0
theorem Qkv (c : Int) : need c <= 2 := by unfold need; split <;> (try split) <;> omega
def sum3 : List MDec -> Int
  | [] => 0
  | d :: r => (atR d 3).1 + sum3 r
theorem Qfu {d : MDec} (h : decOk d = true) : -9999000 <= (atR d 3).1 /\ (atR d 3).1 <= 9999000 := by
  obtain ⟨⟨h1, h2⟩, h3, h4⟩ := Qft.1 h
  unfold atR
  rw [if_pos h2]
  show -9999000 <= d.1 * pw (3 - d.2) /\ d.1 * pw (3 - d.2) <= 9999000
  have : d.2 = 0 ∨ d.2 = 1 ∨ d.2 = 2 ∨ d.2 = 3 := by omega
  have p0 : pw 0 = 1 := rfl
  have p1 : pw 1 = 10 := rfl
  have p2 : pw 2 = 100 := rfl
  have p3 : pw 3 = 1000 := rfl
  rcases this with e | e | e | e <;> rw [e] at h3 h4 ⊢ <;> simp only [p0, p1, p2, p3, show (3 - 0 : Int) = 3 by omega, show (3 - 1 : Int) = 2 by omega, show (3 - 2 : Int) = 1 by omega, show (3 - 3 : Int) = 0 by omega] at h3 h4 ⊢ <;> omega
def decMean (l : List MDec) (p : Int) : MDec := bif inq l.length 1 100 && (l.all decOk && inq p 0 3) then (near (sum3 l) ((l.length : Int) * pw (3 - p)), p) else (0, 0)
def tell (t : MTst) : MDec := if t.2.2.2.1 = 1 then decAt (t.2.2.2.2.getD 0 (0, 0)) t.1.2.2.2 else if t.2.2.2.1 = 2 then decMean (t.2.2.1 :: t.2.2.2.2) t.1.2.2.2 else decAt t.2.2.1 t.1.2.2.2
def passes (t : MTst) : Bool := t.2.2.2.2.all (spcIn t.1) && spcIn t.1 (tell t)
def stateOf (t : MTst) : Int := if t.2.2.2.1 = 0 then (if spcIn t.1 t.2.2.1 = true then 3 else 1) else if t.2.2.2.1 = 3 then 4 else if (t.2.2.2.2.length : Int) < need t.2.2.2.1 then 2 else if passes t = true then 3 else 4
def tstOkA (t : MTst) : Bool := askOk t.1 && (decOk t.2.2.1 && (t.2.2.2.2.all decOk && (inq t.2.2.2.1 0 3 && decide ((t.2.2.2.2.length : Int) <= need t.2.2.2.1))))
noncomputable def tstOkB (t : MTst) : Bool := bif decide (t.2.1 = 0) then (same t.2.2.1 (0, 0) && decide (t.2.2.2.1 = 0)) else (decide (t.2.1 = stateOf t) && (decide (t.2.2.2.1 = 0) || !spcIn t.1 t.2.2.1))
noncomputable def tstOk (t : MTst) : Bool := tstOkA t && tstOkB t
/-- What the telling needs. -/
def tsPre (t : MTst) : Bool := askOk t.1 && (decOk t.2.2.1 && (t.2.2.2.2.all decOk && decide (t.2.2.2.2.length <= 2)))
def tlPre (t : MTst) : Bool := tsPre t && (!decide (t.2.2.2.1 = 1) || !t.2.2.2.2.isEmpty)
theorem Qbr {t : MTst} : tsPre t = true ↔ askOk t.1 = true /\ decOk t.2.2.1 = true /\ t.2.2.2.2.all decOk = true /\ t.2.2.2.2.length <= 2 := by
  unfold tsPre; simp only [Bool.and_eq_true, decide_eq_true_eq]
theorem Qe7 {t : MTst} (h : tstOkA t = true) : tsPre t = true := by
  unfold tstOkA at h
  simp only [Bool.and_eq_true, decide_eq_true_eq] at h
  have := Qkv t.2.2.2.1
  exact Qbr.2 ⟨h.1, h.2.1, h.2.2.1, by have := h.2.2.2.2; omega⟩

/-- The mean, as the two ways of telling it have it. -/
theorem Qlo {s b c : Int} (hb : 0 < b) (hc : 0 < c) : near (s * c) (b * c) = near s b := by
  have key : ∀ m : Int, (2 * (m * c) + b * c) / (2 * (b * c)) = (2 * m + b) / (2 * b) := fun m => by
    have e1 : 2 * (m * c) + b * c = (2 * m + b) * c := by rw [Int.add_mul, Int.mul_assoc]
    have e2 : 2 * (b * c) = (2 * b) * c := by rw [Int.mul_assoc]
    rw [e1, e2, Int.mul_ediv_mul_of_pos_left _ _ hc]
  unfold near
  by_cases h : s < 0
  · have : s * c < 0 := Int.mul_neg_of_neg_of_pos h hc
    rw [if_pos this, if_pos h, <- Int.neg_mul, key]
  · have : ¬ s * c < 0 := by have := Int.mul_nonneg (show 0 <= s by omega) (show 0 <= c by omega); omega
    rw [if_neg this, if_neg h, key]

theorem Qmy {l : List MDec} {p : Int} (h1 : inq l.length 1 100 = true) (h2 : inq p 0 3 = true) : near (sum3 l * pw p) ((l.length : Int) * pw 3) = near (sum3 l) ((l.length : Int) * pw (3 - p)) := by
  obtain ⟨h3, h4⟩ := Qap.1 h1
  obtain ⟨h5, h6⟩ := Qap.1 h2
  have e : pw 3 = pw (3 - p) * pw p := by
    have : p = 0 ∨ p = 1 ∨ p = 2 ∨ p = 3 := by omega
    rcases this with rfl | rfl | rfl | rfl <;> rfl
  rw [e, <- Int.mul_assoc]
  exact Qlo (Int.mul_pos (by omega) (Qea _)) (Qea _)

theorem Qj0 (xs : List MDec) (hx : xs.length <= 100) (z : Int -> MDec) (F : Nat -> Nat -> Int -> Option (MDec × Unit)) (hend : ∀ k c, -999900000 <= c -> c <= 999900000 -> F (k + 1) xs.length c = some (z c, ()))
    (hstep : ∀ (k i : Nat) (x : MDec) (r : List MDec) (c : Int), xs.drop i = x :: r -> i < xs.length -> -999900000 <= c -> c <= 999900000 -> F (k + 1) i c = bif decOk x then F k (i + 1) (c + (atR x 3).1) else some ((0, 0), ())) :
    F (xs.length + 1) 0 0 = some (bif xs.all decOk then z (sum3 xs) else (0, 0), ()) := by
  have := Qaw (σ := Int) xs F (fun l i c => (bif l.all decOk then z (c + sum3 l) else (0, 0), ())) (fun i c => -9999000 * (i : Int) <= c /\ c <= 9999000 * (i : Int) /\ i <= 100) (fun k c hc => by rw [hend k c (by omega) (by omega)]; simp [sum3]) (fun k i x r c hd hi hc => by
    have h := hstep k i x r c hd hi (by omega) (by omega)
    cases hp : decOk x
    · exact .inl (by rw [h, hp]; simp [hp])
    · refine .inr ⟨c + (atR x 3).1, ?_, by rw [h, hp]; rfl, ?_⟩
      · have := Qfu hp; omega
      · simp only [List.all_cons, hp, Bool.true_and, sum3, Int.add_assoc]) xs.length 0 0 (by omega) ⟨by omega, by omega, by omega⟩
  simpa using this
end Go.Vm


set_option linter.unusedVariables false
set_option linter.unusedSimpArgs false
namespace Go.Vm
abbrev MRd : Type := List Int × Int
/-- A reader that may go on for so many steps. -/
def RdOk (c : Nat) (r : MRd) : Prop := (r.1.length <= 2000 /\ ∀ b ∈ r.1, 0 <= b /\ b <= 255) /\ 0 <= r.2 /\ r.2 + c <= 1000000
instance (c : Nat) (r : MRd) : Decidable (RdOk c r) := by unfold RdOk; infer_instance
theorem RdOk.mono {c d : Nat} {r : MRd} (h : RdOk c r) (hd : d <= c) : RdOk d r := ⟨h.1, h.2.1, by have := h.2.2; omega⟩
/-- A reader went on, at most so many steps. -/
def Step (c : Nat) (r r' : MRd) : Prop := r'.1 = r.1 /\ r.2 <= r'.2 /\ r'.2 <= r.2 + c
theorem Step.mono {c d : Nat} {r s : MRd} (h : Step c r s) (hd : c <= d) : Step d r s := ⟨h.1, h.2.1, by have := h.2.2; omega⟩
theorem Step.trans {c d : Nat} {r s t : MRd} (h : Step c r s) (h2 : Step d s t) : Step (c + d) r t := ⟨h2.1.trans h.1, Int.le_trans h.2.1 h2.2.1, by have := h.2.2; have := h2.2.2; omega⟩
theorem Step.ok {N c d : Nat} {r s : MRd} (h : Step c r s) (h0 : RdOk N r) (hc : c + d <= N) : RdOk d s :=
  ⟨by rw [h.1]; exact h0.1, Int.le_trans h0.2.1 h.2.1, by have := h.2.2; have := h0.2.2; omega⟩

end Go.Vm

set_option linter.unusedVariables false
set_option linter.unusedSimpArgs false
namespace Go.Vm

theorem places {p : Int} (h : 0 <= p /\ p <= 3) : p = 0 ∨ p = 1 ∨ p = 2 ∨ p = 3 := by omega
/-! ### Asks in order -/
theorem Qfv {α : Type} (p : α -> Bool) : ∀ (l : List α) (k : Nat), idxOf p l k = -1 ∨ ((k : Int) <= idxOf p l k /\ idxOf p l k < ((k + l.length : Nat) : Int))
  | [], k => .inl rfl
  | x :: r, k => by
    unfold idxOf
    cases p x
    · show idxOf p r (k + 1) = -1 ∨ ((k : Int) <= idxOf p r (k + 1) /\ idxOf p r (k + 1) < _)
      rcases Qfv p r (k + 1) with h | ⟨h1, h2⟩
      · exact .inl h
      · refine .inr ⟨by omega, ?_⟩
        rw [List.length_cons]; omega
    · show (k : Int) = -1 ∨ ((k : Int) <= (k : Int) /\ (k : Int) < _)
      refine .inr ⟨Int.le_refl _, ?_⟩
      rw [List.length_cons]; omega
theorem Qkf {α : Type} (p : α -> Bool) (l : List α) : idxOf p l 0 = -1 ∨ (0 <= idxOf p l 0 /\ idxOf p l 0 < l.length) := by
  have := Qfv p l 0
  simpa using this
end Go.Vm

set_option linter.unusedVariables false
set_option linter.unusedSimpArgs false
namespace Go.Vm
theorem Qj1 {α : Type} {l : List α} {i : Nat} {x : α} (h : l[i]? = some x) : l.set i x = l := by
  apply List.ext_getElem?
  intro j
  rw [List.getElem?_set]
  split
  · rename_i e; subst e
    have : i < l.length := by
      rcases Nat.lt_or_ge i l.length with h' | h'
      · exact h'
      · rw [List.getElem?_eq_none h'] at h; cases h
    rw [if_pos this, h]
  · rfl

/-! ### What was raised -/
/-! ### Short lists of specifications -/
/-- At most so many, each short. -/
def SpI (i : Nat) (l : List MSpc) : Prop := l.length <= i /\ ∀ s ∈ l, s.1.length <= 5
def SpQ (l : List MSpc) : Prop := SpI 4 l
theorem SpI.nil : SpI 0 [] := ⟨Nat.le_refl _, fun _ h => by cases h⟩
theorem SpI.mono {i : Nat} {l : List MSpc} (h : SpI i l) : SpI (i + 1) l := ⟨by have := h.1; omega, h.2⟩
theorem SpI.q {i : Nat} {l : List MSpc} (h : SpI i l) (hi : i <= 4) : SpQ l := ⟨by have := h.1; omega, h.2⟩
theorem SpI.set {i : Nat} {l : List MSpc} (h : SpI i l) (k : Nat) (s : MSpc) (hs : s.1.length <= 5) : SpI i (l.set k s) := ⟨by rw [List.length_set]; exact h.1, fun y hy => by
  rcases List.mem_or_eq_of_mem_set hy with h1 | rfl
  · exact h.2 y h1
  · exact hs⟩
theorem SpI.getD {i : Nat} {l : List MSpc} (h : SpI i l) (k : Nat) : (l.getD k ([], 0)).1.length <= 5 := by
  rw [List.getD_eq_getElem?_getD]
  cases hk : l[k]? with
  | none => exact Nat.zero_le _
  | some s => exact h.2 s (List.mem_of_getElem? hk)
end Go.Vm

set_option linter.unusedVariables false
set_option linter.unusedSimpArgs false
namespace Go.Vm
theorem Qdu {α β : Type} (y : α × β) (a : α) (b : β) : same y (a, b) = (same y.1 a && same y.2 b) := (Qax _ _ _ _).symm
/-- Each in turn. -/
def markL {α : Type} (mk : α -> Int -> α × Int) : List α -> Int -> List α × Int
  | [], k => ([], k)
  | x :: r, k => ((mk x k).1 :: (markL mk r (mk x k).2).1, (markL mk r (mk x k).2).2)
/-- Is it marked from a number on? -/
noncomputable def hdOf {α : Type} (mk : α -> Int -> α × Int) (x : α) (k : Int) : Int := bif same x (mk x k).1 then (mk x k).2 else -1
/-- What a mark of one is: it goes on by so much, and hangs on the form alone. -/
structure MkOk {α : Type} (mk : α -> Int -> α × Int) (sz : α -> Nat) : Prop where
  go : ∀ x k, (mk x k).2 = k + sz x
  idem : ∀ x k, mk (mk x k).1 k = mk x k
def szL {α : Type} (sz : α -> Nat) : List α -> Nat
  | [] => 0
  | x :: r => sz x + szL sz r
theorem Qce {α : Type} {sz : α -> Nat} (h : ∀ x, 1 <= sz x) : ∀ l : List α, l.length <= szL sz l
  | [] => Nat.le_refl _
  | x :: r => by have h1 := Qce h r; have h2 := h x; show r.length + 1 <= sz x + szL sz r; omega
theorem Qmz {α : Type} {sz : α -> Nat} {c : Nat} : ∀ l : List α, (∀ x ∈ l, sz x <= c) -> szL sz l <= c * l.length
  | [], _ => Nat.zero_le _
  | x :: r, h => by
    have h1 := Qmz r fun y hy => h y (List.mem_cons_of_mem _ hy)
    have h2 := h x List.mem_cons_self
    show sz x + szL sz r <= c * (r.length + 1)
    rw [Nat.mul_add]; omega
theorem Qcv {α : Type} {c : Nat} (l : List α) : szL (fun _ => c) l = c * l.length := by
  induction l with
  | nil => rfl
  | cons y r ih => show c + szL _ r = c * (r.length + 1); rw [ih, Nat.mul_add]; omega
theorem MkOk.list {α : Type} {mk : α -> Int -> α × Int} {sz : α -> Nat} (h : MkOk mk sz) : MkOk (markL mk) (szL sz) where
  go := fun l => by
    induction l with
    | nil => intro k; show k = k + ((0 : Nat) : Int); omega
    | cons x r ih =>
      intro k
      show (markL mk r (mk x k).2).2 = k + ((sz x + szL sz r : Nat) : Int)
      rw [ih, h.go]; omega
  idem := fun l => by
    induction l with
    | nil => intro k; rfl
    | cons x r ih =>
      intro k
      show ((mk (mk x k).1 k).1 :: (markL mk (markL mk r (mk x k).2).1 (mk (mk x k).1 k).2).1, (markL mk (markL mk r (mk x k).2).1 (mk (mk x k).1 k).2).2) = _
      rw [h.idem, ih]; rfl
theorem MkOk.held {α : Type} {mk : α -> Int -> α × Int} {sz : α -> Nat} (h : MkOk mk sz) (x : α) (k : Int) : hdOf mk (mk x k).1 k = (mk x k).2 := by
  unfold hdOf
  rw [h.idem, Qb7]; rfl
theorem MkOk.hd {α : Type} {mk : α -> Int -> α × Int} {sz : α -> Nat} (h : MkOk mk sz) {x : α} {k : Int} (hk : 0 <= k) : (hdOf mk x k < 0 /\ hdOf mk x k = -1 /\ same x (mk x k).1 = false) ∨ (0 <= hdOf mk x k /\ hdOf mk x k = k + sz x /\ same x (mk x k).1 = true) := by
  unfold hdOf
  cases same x (mk x k).1
  · exact .inl ⟨show (-1 : Int) < 0 by decide, rfl, rfl⟩
  · have := h.go x k
    exact .inr ⟨by show 0 <= (mk x k).2; omega, this, rfl⟩
/-- What a mark of a thing needs. -/
def mkPre {α : Type} (sz : α -> Nat) (x : α) (k : Int) : Bool := decide (0 <= k) && decide (k + sz x <= 4294967296)
theorem Qan {α : Type} {sz : α -> Nat} {x : α} {k : Int} : mkPre sz x k = true ↔ 0 <= k /\ k + sz x <= 4294967296 := by unfold mkPre; simp only [Bool.and_eq_true, decide_eq_true_eq]
/-- A loop that marks each. -/
theorem Qej {α β : Type} {mk : α -> Int -> α × Int} {sz : α -> Nat} (hgo : ∀ x k, (mk x k).2 = k + sz x) (l : List α) (B : Int) (Z : Int -> List α -> Option β) (F : Nat -> Nat -> Int -> List α -> Option β)
    (hend : ∀ k c out, out.length = l.length -> F (k + 1) l.length c out = Z c out)
    (hstep : ∀ k i x r c out, out.drop i = x :: r -> i < l.length -> out.length = l.length -> 0 <= c -> c + sz x <= B -> F (k + 1) i c out = F k (i + 1) (mk x c).2 (out.set i (mk x c).1))
    (c : Int) (hc : 0 <= c) (hB : c + szL sz l <= B) : F (l.length + 1) 0 c l = Z (markL mk l c).2 (markL mk l c).1 := by
  have go : ∀ (m : Nat) (pre rest : List α) (c : Int), rest.length = m -> pre.length + m = l.length -> 0 <= c -> c + szL sz rest <= B -> F (m + 1) pre.length c (pre ++ rest) = Z (markL mk rest c).2 (pre ++ (markL mk rest c).1) := by
    intro m
    induction m with
    | zero =>
      intro pre rest c h1 h2 _ _
      have : rest = [] := List.eq_nil_of_length_eq_zero h1
      subst this
      have h3 : pre.length = l.length := by omega
      rw [h3]
      exact hend 0 c _ (by rw [List.append_nil]; exact h3)
    | succ m ih =>
      intro pre rest c h1 h2 h3 h4
      cases rest with
      | nil => cases h1
      | cons x r =>
        have h5 : (szL sz (x :: r) : Int) = sz x + szL sz r := by show ((sz x + szL sz r : Nat) : Int) = _; omega
        have hd : (pre ++ x :: r).drop pre.length = x :: r := by rw [List.drop_left]
        rw [hstep (m + 1) pre.length x r c _ hd (by omega) (by rw [List.length_append]; omega) h3 (by omega)]
        have hs : (pre ++ x :: r).set pre.length (mk x c).1 = (pre ++ [(mk x c).1]) ++ r := by
          rw [List.set_append_right _ _ (Nat.le_refl _), Nat.sub_self, List.set_cons_zero]; simp
        have hl : (pre ++ [(mk x c).1]).length = pre.length + 1 := by rw [List.length_append]; rfl
        have h6 := hgo x c
        rw [hs, <- hl, ih (pre ++ [(mk x c).1]) r (mk x c).2 (by simpa using h1) (by rw [hl]; omega) (by omega) (by omega)]
        show Z _ ((pre ++ [(mk x c).1]) ++ (markL mk r (mk x c).2).1) = Z _ (pre ++ ((mk x c).1 :: (markL mk r (mk x c).2).1))
        rw [List.append_assoc]; rfl
  exact go l.length [] l c rfl (by simp) hc hB
/-- A loop that looks whether each is marked. -/
theorem Qek {α : Type} {mk : α -> Int -> α × Int} {sz : α -> Nat} (h : MkOk mk sz) (l : List α) (B : Int) (F : Nat -> Nat -> Int -> Option (Int × Unit))
    (hend : ∀ k c, F (k + 1) l.length c = some (c, ()))
    (hstep : ∀ k i x r c, l.drop i = x :: r -> i < l.length -> 0 <= c -> c + sz x <= B -> F (k + 1) i c = bif same x (mk x c).1 then F k (i + 1) (mk x c).2 else some (-1, ()))
    (c : Int) (hc : 0 <= c) (hB : c + szL sz l <= B) : F (l.length + 1) 0 c = some (hdOf (markL mk) l c, ()) := by
  have e : ∀ (x : α) (r : List α) (c : Int), hdOf (markL mk) (x :: r) c = bif same x (mk x c).1 then hdOf (markL mk) r (mk x c).2 else -1 := by
    intro x r c
    unfold hdOf
    show (bif same (x :: r) ((mk x c).1 :: (markL mk r (mk x c).2).1) then (markL mk r (mk x c).2).2 else -1) = _
    have : same (x :: r) ((mk x c).1 :: (markL mk r (mk x c).2).1) = (same x (mk x c).1 && same r (markL mk r (mk x c).2).1) := by
      rw [Bool.eq_iff_iff, Bool.and_eq_true, Qa4, Qa4, Qa4, List.cons.injEq]
    rw [this]
    cases same x (mk x c).1 <;> rfl
  have := Qaw (σ := Int) l F (fun r i c => (hdOf (markL mk) r c, ())) (fun i c => 0 <= c /\ c + szL sz (l.drop i) <= B) (fun k c hc => by
    rw [hend k c]
    show _ = some ((bif same ([] : List α) [] then c else -1), ())
    rw [Qb7]; rfl) (fun k i x r c hd hi hc => by
    rw [hd] at hc
    have hsz : ((szL sz (x :: r) : Nat) : Int) = sz x + szL sz r := by show ((sz x + szL sz r : Nat) : Int) = _; omega
    have h1 := hstep k i x r c hd hi hc.1 (by omega)
    cases hs : same x (mk x c).1
    · refine .inl ?_
      rw [h1, hs, e, hs]; rfl
    · have hg := h.go x c
      refine .inr ⟨(mk x c).2, ⟨by omega, ?_⟩, by rw [h1, hs]; rfl, by rw [e, hs]; rfl⟩
      have : l.drop (i + 1) = r := Qio hd
      rw [this]; omega) l.length 0 c (by omega) ⟨hc, by rw [List.drop_zero]; exact hB⟩
  simpa using this
/-! ### The marks of things -/
def mkDec (t : MDec) (k : Int) : MDec × Int := ((k, k + 1), k + 1 + 1)
def mkSig (t : MSig) (k : Int) : MSig × Int := ((k, k + 1, k + 1 + 1), k + 1 + 1 + 1)
def mkBool (t : Bool) (k : Int) : Bool × Int := (decide (Int.tmod k 3 = 0), k + 1)
theorem Qc5 : MkOk mkDec (fun _ => 2) := ⟨fun _ k => by show k + 1 + 1 = k + ((2 : Nat) : Int); omega, fun _ _ => rfl⟩
theorem Qco : MkOk mkSig (fun _ => 3) := ⟨fun _ k => by show k + 1 + 1 + 1 = k + ((3 : Nat) : Int); omega, fun _ _ => rfl⟩
theorem Qb9 : MkOk mkBool (fun _ => 1) := ⟨fun _ _ => rfl, fun _ _ => rfl⟩
/-- A test, of a batch: its leaves, then what was done again. -/
def mkTst (t : MTst) (k : Int) : MTst × Int :=
  ((((k, (k + 1, k + 1 + 1), (k + 1 + 1 + 1, k + 1 + 1 + 1 + 1), k + 1 + 1 + 1 + 1 + 1), k + 1 + 1 + 1 + 1 + 1 + 1, (k + 1 + 1 + 1 + 1 + 1 + 1 + 1, k + 1 + 1 + 1 + 1 + 1 + 1 + 1 + 1), k + 1 + 1 + 1 + 1 + 1 + 1 + 1 + 1 + 1, (markL mkDec t.2.2.2.2 (k + 1 + 1 + 1 + 1 + 1 + 1 + 1 + 1 + 1 + 1)).1) : MTst), (markL mkDec t.2.2.2.2 (k + 1 + 1 + 1 + 1 + 1 + 1 + 1 + 1 + 1 + 1)).2)
def szT (t : MTst) : Nat := 10 + szL (fun _ => 2) t.2.2.2.2
theorem Qcp : MkOk mkTst szT where
  go := fun t k => by
    have := Qc5.list.go t.2.2.2.2 (k + 1 + 1 + 1 + 1 + 1 + 1 + 1 + 1 + 1 + 1)
    show (markL mkDec t.2.2.2.2 (k + 1 + 1 + 1 + 1 + 1 + 1 + 1 + 1 + 1 + 1)).2 = k + ((10 + szL (fun _ => 2) t.2.2.2.2 : Nat) : Int)
    omega
  idem := fun t k => by
    unfold mkTst
    simp only [Qc5.list.idem]
theorem Qkw (t : MTst) : 1 <= szT t := by unfold szT; omega
def szB (b : MBat) : Nat := 3 + szL szT b.2.2.1 + szL (fun _ => 3) b.2.2.2.2.1 + szL (fun _ => 1) b.2.2.2.2.2
end Go.Vm

set_option linter.unusedVariables false
set_option linter.unusedSimpArgs false
namespace Go.Vm
def mkT (a : MAsk) (f : MDec) (c : Int) (m : List MDec) : MTst := (a, stateOf (a, 0, f, c, m), f, c, m)
noncomputable def tstPut (t : MTst) (v : MDec) : MTst × Bool := bif tstOk t && (decide (t.2.1 = 0) && decOk v) then (mkT t.1 v t.2.2.2.1 t.2.2.2.2, true) else (t, false)
noncomputable def tstCause (t : MTst) (c : Int) : MTst × Bool := bif tstOk t && (decide (t.2.1 = 1) && inq c 1 3) then (mkT t.1 t.2.2.1 c t.2.2.2.2, true) else (t, false)
noncomputable def tstMore (t : MTst) (v : MDec) : MTst × Bool := bif tstOk t && (decide (t.2.1 = 2) && decOk v) then (mkT t.1 t.2.2.1 t.2.2.2.1 (t.2.2.2.2 ++ [v]), true) else (t, false)
theorem Qi6 (t : MTst) : stateOf t = 1 ∨ stateOf t = 2 ∨ stateOf t = 3 ∨ stateOf t = 4 := by
  unfold stateOf
  split
  · split
    · exact .inr (.inr (.inl rfl))
    · exact .inl rfl
  · split
    · exact .inr (.inr (.inr rfl))
    · split
      · exact .inr (.inl rfl)
      · split
        · exact .inr (.inr (.inl rfl))
        · exact .inr (.inr (.inr rfl))
theorem Qcf {t : MTst} : tstOkA t = true ↔ askOk t.1 = true /\ decOk t.2.2.1 = true /\ t.2.2.2.2.all decOk = true /\ inq t.2.2.2.1 0 3 = true /\ (t.2.2.2.2.length : Int) <= need t.2.2.2.1 := by
  unfold tstOkA; simp only [Bool.and_eq_true, decide_eq_true_eq]
theorem Qbe {t : MTst} : tstOk t = true ↔ tstOkA t = true /\ ((t.2.1 = 0 /\ t.2.2.1 = (0, 0) /\ t.2.2.2.1 = 0) ∨ (t.2.1 ≠ 0 /\ t.2.1 = stateOf t /\ (t.2.2.2.1 = 0 ∨ spcIn t.1 t.2.2.1 = false))) := by
  unfold tstOk tstOkB
  rw [Bool.and_eq_true]
  by_cases h : t.2.1 = 0
  · simp [h, Qa4]
  · simp [h]
/-- What a test that is ok, and stands so, has. -/
theorem Qnr {t : MTst} (h : tstOk t = true) (h0 : t.2.1 = 0) : t.2.2.1 = (0, 0) /\ t.2.2.2.1 = 0 /\ t.2.2.2.2 = [] := by
  obtain ⟨hA, hB⟩ := Qbe.1 h
  obtain ⟨_, _, _, _, h5⟩ := Qcf.1 hA
  rcases hB with ⟨_, h2, h3⟩ | ⟨h1, _⟩
  · refine ⟨h2, h3, List.eq_nil_of_length_eq_zero ?_⟩
    rw [h3] at h5
    have : need 0 = 0 := rfl
    omega
  · exact absurd h0 h1
theorem Qj2 {t : MTst} (h : tstOk t = true) (h0 : t.2.1 ≠ 0) : t.2.1 = stateOf t /\ (t.2.2.2.1 = 0 ∨ spcIn t.1 t.2.2.1 = false) := by
  rcases (Qbe.1 h).2 with ⟨h1, _⟩ | ⟨_, h2, h3⟩
  · exact absurd h1 h0
  · exact ⟨h2, h3⟩
theorem Qn6 {t : MTst} (h : tstOk t = true) (h0 : t.2.2.2.1 = 0) : t.2.2.2.2 = [] := by
  obtain ⟨_, _, _, _, h5⟩ := Qcf.1 (Qbe.1 h).1
  rw [h0] at h5
  have : need 0 = 0 := rfl
  exact List.eq_nil_of_length_eq_zero (by omega)
theorem Qm0 {t : MTst} (h : stateOf t = 1) : t.2.2.2.1 = 0 /\ spcIn t.1 t.2.2.1 = false := by
  unfold stateOf at h
  split at h
  · rename_i hc
    split at h
    · cases h
    · rename_i hs
      exact ⟨hc, Bool.eq_false_iff.2 hs⟩
  · split at h
    · cases h
    · split at h
      · cases h
      · split at h <;> cases h
theorem Qkg {t : MTst} (h : stateOf t = 2) : t.2.2.2.1 ≠ 0 /\ t.2.2.2.1 ≠ 3 /\ (t.2.2.2.2.length : Int) < need t.2.2.2.1 := by
  unfold stateOf at h
  split at h
  · split at h <;> cases h
  · rename_i hc
    split at h
    · cases h
    · rename_i h3
      split at h
      · rename_i hl; exact ⟨hc, h3, hl⟩
      · split at h <;> cases h
theorem Qol {t : MTst} (h : tstOk t = true) (h1 : t.2.1 = 1) : t.2.2.2.1 = 0 /\ spcIn t.1 t.2.2.1 = false /\ t.2.2.2.2 = [] := by
  have hs := Qj2 h (by omega)
  obtain ⟨h2, h3⟩ := Qm0 (hs.1.symm.trans h1)
  exact ⟨h2, h3, Qn6 h h2⟩
theorem Qns {t : MTst} (h : tstOk t = true) (h1 : t.2.1 = 2) : t.2.2.2.1 ≠ 0 /\ t.2.2.2.1 ≠ 3 /\ (t.2.2.2.2.length : Int) < need t.2.2.2.1 /\ spcIn t.1 t.2.2.1 = false := by
  have hs := Qj2 h (by omega)
  obtain ⟨h2, h3, h4⟩ := Qkg (hs.1.symm.trans h1)
  exact ⟨h2, h3, h4, hs.2.resolve_left h2⟩
theorem Qj3 {a : MAsk} {f : MDec} {c : Int} {m : List MDec} (h1 : askOk a = true) (h2 : decOk f = true) (h3 : m.all decOk = true) (h4 : inq c 0 3 = true) (h5 : (m.length : Int) <= need c) (h6 : c = 0 ∨ spcIn a f = false) : tstOk (mkT a f c m) = true := by
  refine Qbe.2 ⟨Qcf.2 ⟨h1, h2, h3, h4, h5⟩, .inr ⟨?_, rfl, h6⟩⟩
  show stateOf (a, 0, f, c, m) ≠ 0
  rcases Qi6 (a, 0, f, c, m) with h | h | h | h <;> rw [h] <;> decide
theorem Qj4 {t : MTst} {v : MDec} (h : tstOk t = true) (h0 : t.2.1 = 0) (hv : decOk v = true) : tstOk (mkT t.1 v t.2.2.2.1 t.2.2.2.2) = true := by
  obtain ⟨g1, g2, g3, g4, g5⟩ := Qcf.1 (Qbe.1 h).1
  exact Qj3 g1 hv g3 g4 g5 (.inl (Qnr h h0).2.1)
theorem Qgx {t : MTst} {c : Int} (h : tstOk t = true) (h1 : t.2.1 = 1) (hc : inq c 1 3 = true) : tstOk (mkT t.1 t.2.2.1 c t.2.2.2.2) = true := by
  obtain ⟨g1, g2, g3, g4, g5⟩ := Qcf.1 (Qbe.1 h).1
  obtain ⟨k1, k2, k3⟩ := Qol h h1
  have hc := Qap.1 hc
  refine Qj3 g1 g2 g3 (Qap.2 ⟨by omega, hc.2⟩) ?_ (.inr k2)
  rw [k3]
  show (0 : Int) <= need c
  unfold need; split <;> (try split) <;> omega
theorem Qh7 {t : MTst} {v : MDec} (h : tstOk t = true) (h2 : t.2.1 = 2) (hv : decOk v = true) : tstOk (mkT t.1 t.2.2.1 t.2.2.2.1 (t.2.2.2.2 ++ [v])) = true := by
  obtain ⟨g1, g2, g3, g4, g5⟩ := Qcf.1 (Qbe.1 h).1
  obtain ⟨k1, k2, k3, k4⟩ := Qns h h2
  refine Qj3 g1 g2 ?_ g4 ?_ (.inr k4)
  · rw [List.all_append, g3]
    show (decOk v && true) = true
    rw [hv]; rfl
  · rw [List.length_append]; show ((t.2.2.2.2.length + 1 : Nat) : Int) <= _; omega
theorem Qdv {a : MAsk} {s : Int} {f : MDec} {c : Int} {m : List MDec} (h : tstOk (mkT a f c m) = true) : tsPre (a, s, f, c, m) = true := by
  have := Qe7 (Qbe.1 h).1
  exact this
/-! ### The turning, in short -/
theorem Qlp {t : MTst} {v : MDec} : (tstPut t v).2 = true ↔ tstOk t = true /\ t.2.1 = 0 /\ decOk v = true := by
  unfold tstPut
  cases h : (tstOk t && (decide (t.2.1 = 0) && decOk v))
  · simp only [cond_false]; constructor
    · intro e; cases e
    · intro e; simp [e.1, e.2.1, e.2.2] at h
  · simp only [Bool.and_eq_true, decide_eq_true_eq] at h; simp [h.1, h.2.1, h.2.2]
theorem Qj5 {t : MTst} {c : Int} : (tstCause t c).2 = true ↔ tstOk t = true /\ t.2.1 = 1 /\ inq c 1 3 = true := by
  unfold tstCause
  cases h : (tstOk t && (decide (t.2.1 = 1) && inq c 1 3))
  · simp only [cond_false]; constructor
    · intro e; cases e
    · intro e; simp [e.1, e.2.1, e.2.2] at h
  · simp only [Bool.and_eq_true, decide_eq_true_eq] at h; simp [h.1, h.2.1, h.2.2]
theorem Qkh {t : MTst} {v : MDec} : (tstMore t v).2 = true ↔ tstOk t = true /\ t.2.1 = 2 /\ decOk v = true := by
  unfold tstMore
  cases h : (tstOk t && (decide (t.2.1 = 2) && decOk v))
  · simp only [cond_false]; constructor
    · intro e; cases e
    · intro e; simp [e.1, e.2.1, e.2.2] at h
  · simp only [Bool.and_eq_true, decide_eq_true_eq] at h; simp [h.1, h.2.1, h.2.2]
theorem Qm1 {t : MTst} {v : MDec} (h : (tstPut t v).2 = false) : (tstPut t v).1 = t := by
  unfold tstPut at h ⊢
  cases hc : (tstOk t && (decide (t.2.1 = 0) && decOk v))
  · rfl
  · rw [hc] at h; cases h
theorem Qki {t : MTst} {c : Int} (h : (tstCause t c).2 = false) : (tstCause t c).1 = t := by
  unfold tstCause at h ⊢
  cases hc : (tstOk t && (decide (t.2.1 = 1) && inq c 1 3))
  · rfl
  · rw [hc] at h; cases h
theorem Qlq {t : MTst} {v : MDec} (h : (tstMore t v).2 = false) : (tstMore t v).1 = t := by
  unfold tstMore at h ⊢
  cases hc : (tstOk t && (decide (t.2.1 = 2) && decOk v))
  · rfl
  · rw [hc] at h; cases h
theorem Qhm {t : MTst} {v : MDec} (h : (tstPut t v).2 = true) : (tstPut t v).1 = mkT t.1 v t.2.2.2.1 t.2.2.2.2 /\ tstOk (tstPut t v).1 = true := by
  obtain ⟨h1, h2, h3⟩ := Qlp.1 h
  have e : (tstPut t v).1 = mkT t.1 v t.2.2.2.1 t.2.2.2.2 := by unfold tstPut; rw [h1, decide_eq_true h2, h3]; rfl
  exact ⟨e, by rw [e]; exact Qj4 h1 h2 h3⟩
theorem Qfw {t : MTst} {c : Int} (h : (tstCause t c).2 = true) : (tstCause t c).1 = mkT t.1 t.2.2.1 c t.2.2.2.2 /\ tstOk (tstCause t c).1 = true := by
  obtain ⟨h1, h2, h3⟩ := Qj5.1 h
  have e : (tstCause t c).1 = mkT t.1 t.2.2.1 c t.2.2.2.2 := by unfold tstCause; rw [h1, decide_eq_true h2, h3]; rfl
  exact ⟨e, by rw [e]; exact Qgx h1 h2 h3⟩
theorem Qgg {t : MTst} {v : MDec} (h : (tstMore t v).2 = true) : (tstMore t v).1 = mkT t.1 t.2.2.1 t.2.2.2.1 (t.2.2.2.2 ++ [v]) /\ tstOk (tstMore t v).1 = true := by
  obtain ⟨h1, h2, h3⟩ := Qkh.1 h
  have e : (tstMore t v).1 = mkT t.1 t.2.2.1 t.2.2.2.1 (t.2.2.2.2 ++ [v]) := by unfold tstMore; rw [h1, decide_eq_true h2, h3]; rfl
  exact ⟨e, by rw [e]; exact Qh7 h1 h2 h3⟩
end Go.Vm

set_option linter.unusedVariables false
set_option linter.unusedSimpArgs false
namespace Go.Vm
def mix (m n : Int) : Int := Int.tmod (m * 8191 + Int.tmod n 999983 + 999983 + 7) 999983
def mkR (m : Int) : Prop := 0 <= m /\ m < 999983
theorem Qiq {m n : Int} (h : mkR m) : (0 <= m * 8191 /\ m * 8191 <= 8190860753) /\ (-999983 < Int.tmod n 999983 /\ Int.tmod n 999983 < 999983) := by
  have h1 := h.1
  have h2 := h.2
  refine ⟨⟨by omega, by omega⟩, ?_, ?_⟩
  · have := Int.tmod_lt_of_pos (-n) (show (0 : Int) < 999983 by decide)
    rw [Int.neg_tmod] at this
    omega
  · exact Int.tmod_lt_of_pos n (by decide)
theorem mix_r {m n : Int} (h : mkR m) : mkR (mix m n) := by
  obtain ⟨h1, h2⟩ := Qiq (n := n) h
  unfold mix
  exact ⟨Int.tmod_nonneg _ (by omega), Int.tmod_lt_of_pos _ (by decide)⟩
def markMore : Int -> List MDec -> Int
  | m, [] => m
  | m, v :: r => markMore (mix (mix m v.1) v.2) r
def markHead (m : Int) (t : MTst) : Int := mix (mix (mix (mix m t.2.1) t.2.2.1.1) t.2.2.1.2) t.2.2.2.1
def markTst (m : Int) (t : MTst) : Int := markMore (markHead m t) t.2.2.2.2
def markTsts : Int -> List MTst -> Int
  | m, [] => m
  | m, t :: r => markTsts (markTst m t) r
def markDev (m : Int) (i : Nat) (d : Bool) : Int := bif d then mix (mix m ((i + 1 : Nat) : Int)) 77 else mix m ((i + 1 : Nat) : Int)
def markDevs : Nat -> Int -> List Bool -> Int
  | _, m, [] => m
  | i, m, d :: r => markDevs (i + 1) (markDev m i d) r
def batMark (b : MBat) : Int := markDevs 0 (markTsts (mix 1 b.1) b.2.2.1) b.2.2.2.2.2
theorem Qhn : ∀ {l : List MDec} {m : Int}, mkR m -> mkR (markMore m l)
  | [], m, h => h
  | v :: r, m, h => Qhn (l := r) (mix_r (mix_r h))
theorem Qe8 {m : Int} {t : MTst} (h : mkR m) : mkR (markHead m t) := mix_r (mix_r (mix_r (mix_r h)))
theorem Qir {m : Int} {t : MTst} (h : mkR m) : mkR (markTst m t) := Qhn (Qe8 h)
theorem Qis {m : Int} {i : Nat} {d : Bool} (h : mkR m) : mkR (markDev m i d) := by
  unfold markDev
  cases d
  · exact mix_r h
  · exact mix_r (mix_r h)
theorem one_r : mkR 1 := ⟨by decide, by decide⟩
/-- The first who has signed in a role what is now, but for one. -/
def signedBy (mk role but : Int) : List MSig -> Int
  | [] => 0
  | s :: r => bif decide (s.2.1 = role) && (decide (s.2.2 = mk) && !decide (s.1 = but)) then s.1 else signedBy mk role but r
def batSigned (b : MBat) (role but : Int) : Int := signedBy (batMark b) role but b.2.2.2.2.1
def signs (r : Int) : Bool := decide (r = 2) || decide (r = 3)
def sigOk (s : MSig) : Bool := inq s.1 1 5 && (signs s.2.1 && inq s.2.2 0 999982)
def hand1 (b : MBat) (s : MSig) : Bool := decide (s.2.1 = 2) && (decide (s.2.2 = batMark b) && decide (0 < batSigned b 3 s.1))
def hands (b : MBat) : Bool := b.2.2.2.2.1.any (hand1 b)
def passed (t : MTst) : Bool := decide (t.2.1 = 3)
def shutAll (b : MBat) : Bool := b.2.2.1.all passed && b.2.2.2.2.2.all (!·)
def gate (b : MBat) : Bool := shutAll b && hands b
/-- All are ok, their numbers rise. -/
def riseL {α : Type} (ok : α -> Bool) (key : α -> Int) : Option Int -> List α -> Bool
  | _, [] => true
  | p, t :: r => ok t && (rises p (key t) && riseL ok key (some (key t)) r)
noncomputable def tstsOk (p : Option Int) (l : List MTst) : Bool := riseL tstOk (fun t => t.1.1) p l
noncomputable def batOkA (b : MBat) : Bool := inq b.1 0 5 && (inq b.2.1 1 10000 && (inq b.2.2.1.length 1 4 && (inq b.2.2.2.1 1 4 && (tstsOk none b.2.2.1 && (decide (b.2.2.2.2.1.length <= 6) && (b.2.2.2.2.1.all sigOk && decide (b.2.2.2.2.2.length <= 3)))))))
/-- Free, or was. -/
def freed (s : Int) : Bool := decide (s = 2) || decide (s = 4)
noncomputable def batOk (b : MBat) : Bool := batOkA b && (!freed b.2.2.2.1 || gate b)
def newT (a : MAsk) : MTst := (a, 0, (0, 0), 0, [])
noncomputable def isOpen (b : MBat) : Bool := batOk b && decide (b.2.2.2.1 = 1)
noncomputable def tstTurn (t : MTst) (w : Int) (v : MDec) (c : Int) : MTst × Bool := if w = 1 then tstPut t v else if w = 2 then tstCause t c else if w = 3 then tstMore t v else (t, false)
def findT (l : List MTst) (n : Int) : Int := idxOf (fun t : MTst => decide (t.1.1 = n)) l 0
def t0 : MTst := ((0, (0, 0), (0, 0), 0), 0, (0, 0), 0, [])
noncomputable def batTest (b : MBat) (n w : Int) (v : MDec) (c : Int) : MBat × Bool :=
  bif isOpen b && !decide (findT b.2.2.1 n < 0) then
    ((b.1, b.2.1, b.2.2.1.set (findT b.2.2.1 n).toNat (tstTurn (b.2.2.1.getD (findT b.2.2.1 n).toNat t0) w v c).1, b.2.2.2.1, b.2.2.2.2.1, b.2.2.2.2.2), (tstTurn (b.2.2.1.getD (findT b.2.2.1 n).toNat t0) w v c).2)
  else (b, false)
end Go.Vm


set_option linter.unusedVariables false
set_option linter.unusedSimpArgs false
namespace Go.Vm
theorem MkOk.size {α : Type} {mk : α -> Int -> α × Int} {sz : α -> Nat} (h : MkOk mk sz) (x : α) (k : Int) : sz (mk x k).1 = sz x := by
  have h1 := h.go x k
  have h2 := h.go (mk x k).1 k
  rw [h.idem] at h2
  omega
theorem MkOk.pre {α : Type} {mk : α -> Int -> α × Int} {sz : α -> Nat} (h : MkOk mk sz) {x : α} {k : Int} (hp : mkPre sz x k = true) : mkPre sz (mk x k).1 k = true := by
  unfold mkPre at hp ⊢
  rw [h.size]; exact hp
theorem MkOk.pos {α : Type} {mk : α -> Int -> α × Int} {sz : α -> Nat} (h : MkOk mk sz) {x : α} {k : Int} (hp : 0 <= k) : decide ((mk x k).2 < 0) = false := by
  have := h.go x k
  exact decide_eq_false (by omega)
theorem MkOk.next {α β : Type} {mk : α -> Int -> α × Int} {sz : α -> Nat} (h : MkOk mk sz) {x : α} {k : Int} {sz2 : β -> Nat} {y : β} (h0 : 0 <= k) (hp : k + sz x + sz2 y <= 4294967296) : mkPre sz2 y (mk x k).2 = true := by
  have := h.go x k
  exact Qan.2 ⟨by omega, by omega⟩
/-- Leaves and what is counted. -/
theorem Qit {α : Type} {f : α -> Int -> Int} {sz : α -> Nat} (hf : Dec1 f) (h : ∀ x l, 0 <= l -> 0 <= f x l -> (sz x : Int) <= 10 + 10 * (l - f x l)) : ∀ {xs : List α} {l : Int}, 0 <= l -> 0 <= szGo f xs l -> (szL sz xs : Int) <= 10 * xs.length + 10 * (l - szGo f xs l)
  | [], l, h0, h1 => by show ((0 : Nat) : Int) <= 10 * ((0 : Nat) : Int) + 10 * (l - l); omega
  | x :: r, l, h0, h1 => by
    have e : szGo f (x :: r) l = if f x l < 0 then -1 else szGo f r (f x l) := rfl
    rw [e] at h1 ⊢
    by_cases hc : f x l < 0
    · rw [if_pos hc] at h1; omega
    · rw [if_neg hc] at h1 ⊢
      have h2 := Qit hf h (xs := r) (l := f x l) (by omega) h1
      have h3 := h x l h0 (by omega)
      have e2 : ((szL sz (x :: r) : Nat) : Int) = sz x + szL sz r := by show ((sz x + szL sz r : Nat) : Int) = _; omega
      rw [e2, List.length_cons]
      omega
theorem Qkj {α : Type} {f : α -> Int -> Int} {sz : α -> Nat} (hf : Dec1 f) (h : ∀ x l, 0 <= l -> 0 <= f x l -> (sz x : Int) <= 10 + 10 * (l - f x l)) {xs : List α} {l : Int} (h0 : 0 <= l) (h1 : 0 <= szList f xs l) : (szL sz xs : Int) <= 10 * (l - szList f xs l) := by
  unfold szList at h1 ⊢
  by_cases hc : l < (xs.length : Int)
  · rw [if_pos hc] at h1; omega
  · rw [if_neg hc] at h1 ⊢
    have := Qit hf h (xs := xs) (l := l - xs.length) (by omega) h1
    omega
end Go.Vm

set_option linter.unusedVariables false
set_option linter.unusedSimpArgs false
namespace Go.Vm
theorem Qiu {t : MTst} (h : tstOk t = true) : t.2.2.2.2.length <= 2 := (Qbr.1 (Qe7 (Qbe.1 h).1)).2.2.2
/-- A test is made again from its results. -/
noncomputable def again (t : MTst) : MTst := (if t.2.2.2.1 = 0 then (tstPut (newT t.1) t.2.2.1).1 else (tstCause (tstPut (newT t.1) t.2.2.1).1 t.2.2.2.1).1)
end Go.Vm

set_option linter.unusedVariables false
set_option linter.unusedSimpArgs false
namespace Go.Vm
/-- With some fuel it comes to something as told. -/
def WithFuel {β : Type} (F : Nat -> Option β) (P : β -> Prop) : Prop := ∃ k, Gets (F k) P
theorem WithFuel.eq {β : Type} {F : Nat -> Option β} {z : β} (h : WithFuel F (fun v => v = z)) : ∃ k, F k = some z := by obtain ⟨k, v, h1, rfl⟩ := h; exact ⟨k, h1⟩
theorem Qiv {β : Type} {F : Nat -> Option β} {z : β} (k : Nat) (h : F k = some z) : WithFuel F (fun v => v = z) := ⟨k, z, h, rfl⟩
/-- A loop over a list that folds it. -/
def foldI {α σ : Type} (g : Nat -> σ -> α -> σ) : Nat -> σ -> List α -> σ
  | _, s, [] => s
  | i, s, x :: r => foldI g (i + 1) (g i s x) r
theorem Qcw {α σ β : Type} (xs : List α) (g : Nat -> σ -> α -> σ) (Inv : σ -> Prop) (F : Nat -> Nat -> σ -> Option β) (P : β -> Prop) (hinv : ∀ i s x, Inv s -> Inv (g i s x))
    (s0 : σ) (h0 : Inv s0) (hend : Inv (foldI g 0 s0 xs) -> WithFuel (fun k => F k xs.length (foldI g 0 s0 xs)) P)
    (hstep : ∀ i x r s, xs.drop i = x :: r -> i < xs.length -> Inv s -> WithFuel (fun k => F k (i + 1) (g i s x)) P -> WithFuel (fun k => F k i s) P) : WithFuel (fun k => F k 0 s0) P := by
  have go : ∀ (m i : Nat) (s : σ), i + m = xs.length -> Inv s -> foldI g i s (xs.drop i) = foldI g 0 s0 xs -> WithFuel (fun k => F k i s) P := by
    intro m
    induction m with
    | zero =>
      intro i s h hs he
      have : i = xs.length := by omega
      subst this
      rw [List.drop_length] at he
      have he : s = foldI g 0 s0 xs := he
      subst he
      exact hend hs
    | succ m ih =>
      intro i s h hs he
      have hi : i < xs.length := by omega
      have hd := List.drop_eq_getElem_cons hi
      rw [hd] at he
      exact hstep i _ _ s hd hi hs (ih (i + 1) _ (by omega) (hinv _ _ _ hs) he)
  exact go xs.length 0 s0 (by omega) h0 rfl
/-- A loop that says whether all are so, and goes on behind it. -/
theorem Qfx {α : Type} (xs : List α) (p : α -> Bool) (b : Bool) (F : Nat -> Nat -> Option (Bool × Unit)) (hend : xs.all p = true -> ∃ k, F k xs.length = some (b, ()))
    (hstep : ∀ k i x r, xs.drop i = x :: r -> i < xs.length -> F (k + 1) i = bif p x then F k (i + 1) else some (false, ())) : ∃ k, F k 0 = some (xs.all p && b, ()) := by
  have go : ∀ (m i : Nat), i + m = xs.length -> (xs.take i).all p = true -> ∃ k, F k i = some ((xs.drop i).all p && b, ()) := by
    intro m
    induction m with
    | zero =>
      intro i h ha
      have : i = xs.length := by omega
      subst this
      rw [List.take_length] at ha
      rw [List.drop_length]
      exact hend ha
    | succ m ih =>
      intro i h ha
      have hi : i < xs.length := by omega
      have hd := List.drop_eq_getElem_cons hi
      cases hp : p xs[i]
      · refine ⟨1, ?_⟩
        rw [hstep 0 i _ _ hd hi, hd, hp, List.all_cons, hp]; rfl
      · obtain ⟨k, hk⟩ := ih (i + 1) (by omega) (by
          rw [List.take_succ_eq_append_getElem hi, List.all_append, ha]
          simp [hp])
        refine ⟨k + 1, ?_⟩
        rw [hstep k i _ _ hd hi, hd, hp, hk, List.all_cons, hp]; rfl
  simpa using go xs.length 0 (by omega) (by simp)
/-- The number of what comes ahead of a place. -/
def prevK {α : Type} (key : α -> Int) (xs : List α) (i : Nat) : Option Int := if i = 0 then none else (xs[i - 1]?).map key
theorem Qlr {α : Type} {key : α -> Int} {xs r : List α} {x : α} {i : Nat} (h : xs.drop i = x :: r) : prevK key xs (i + 1) = some (key x) := by
  have h1 : xs[i]? = some x := by
    have := congrArg List.head? h
    rwa [List.head?_drop] at this
  unfold prevK
  rw [if_neg (by omega), Nat.add_sub_cancel, h1]; rfl
theorem Qiw {α : Type} (ok : α -> Bool) (key : α -> Int) (xs : List α) (b : Bool) (F : Nat -> Nat -> Option (Bool × Unit)) (hend : xs.all ok = true -> ∃ k, F k xs.length = some (b, ()))
    (hstep : ∀ k i x r, xs.drop i = x :: r -> i < xs.length -> F (k + 1) i = bif (ok x && rises (prevK key xs i) (key x)) then F k (i + 1) else some (false, ())) :
    ∃ k, F k 0 = some (riseL ok key none xs && b, ()) := by
  have go : ∀ (m i : Nat), i + m = xs.length -> (xs.take i).all ok = true -> ∃ k, F k i = some (riseL ok key (prevK key xs i) (xs.drop i) && b, ()) := by
    intro m
    induction m with
    | zero =>
      intro i h ha
      have : i = xs.length := by omega
      subst this
      rw [List.take_length] at ha
      rw [List.drop_length]
      exact hend ha
    | succ m ih =>
      intro i h ha
      have hi : i < xs.length := by omega
      have hd := List.drop_eq_getElem_cons hi
      have e : riseL ok key (prevK key xs i) (xs[i] :: xs.drop (i + 1)) = ((ok xs[i] && rises (prevK key xs i) (key xs[i])) && riseL ok key (some (key xs[i])) (xs.drop (i + 1))) := by
        rw [Bool.and_assoc]; rfl
      cases hp : (ok xs[i] && rises (prevK key xs i) (key xs[i]))
      · refine ⟨1, ?_⟩
        rw [hstep 0 i _ _ hd hi, hd, e, hp]; rfl
      · obtain ⟨k, hk⟩ := ih (i + 1) (by omega) (by
          rw [Bool.and_eq_true] at hp
          rw [List.take_succ_eq_append_getElem hi, List.all_append, ha]
          simp [hp.1])
        refine ⟨k + 1, ?_⟩
        rw [hstep k i _ _ hd hi, hd, e, hp, hk, Qlr hd]; rfl
  have := go xs.length 0 (by omega) (by simp)
  rw [List.drop_zero] at this
  exact this
/-- One round of it. -/
theorem Qix {α : Type} (ok : α -> Bool) (key : α -> Int) {xs r : List α} {x : α} {i : Nat} (hx : xs.length <= 4294967296) (hd : xs.drop i = x :: r) (hi : i < xs.length) (Z : Option (Bool × Unit)) (rd : Int -> α) (hrd : ∀ j : Nat, j < xs.length -> some (rd j) = xs[j]?) :
    (bif (bif ok (rd (i : Int)) then false else true) then (some (false, ())) else (bif (decide ((0 : Int) < (i : Int))) then (bif (bif (decide ((0 : Int) <= (w64 ((i : Int) - (1 : Int))))) then (decide ((w64 ((i : Int) - (1 : Int))) < ((List.length xs : Int)))) else false) then (bif (decide (key (rd (i : Int)) <= key (rd (w64 ((i : Int) - (1 : Int)))))) then (some (false, ())) else Z) else none) else Z)) =
    bif (ok x && rises (prevK key xs i) (key x)) then Z else some (false, ()) := by
  have h1 : xs[i]? = some x := by
    have := congrArg List.head? hd
    rwa [List.head?_drop] at this
  have e1 : rd (i : Int) = x := by have := hrd i hi; rw [h1] at this; exact Option.some.inj this
  rw [e1]
  cases ha : ok x
  · rfl
  · by_cases h0 : i = 0
    · subst h0; rfl
    · have e2 : w64 ((i : Int) - (1 : Int)) = ((i - 1 : Nat) : Int) := by rw [Qac (by omega) (by omega)]; omega
      rw [e2, Qae (show i - 1 < xs.length by omega), decide_eq_true (show (0 : Int) < (i : Int) by omega)]
      have e3 : prevK key xs i = some (key (rd ((i - 1 : Nat) : Int))) := by
        unfold prevK
        rw [if_neg h0, <- hrd (i - 1) (by omega)]; rfl
      rw [e3]
      simp only [cond_true, cond_false, Bool.true_and, rises]
      by_cases hlt : key (rd ((i - 1 : Nat) : Int)) < key x
      · rw [decide_eq_true hlt, decide_eq_false (by omega)]; rfl
      · rw [decide_eq_false hlt, decide_eq_true (by omega)]; rfl
/-! ### Batches -/
def smB (b : MBat) : Bool := decide (b.2.2.1.length <= 4294967296) && (b.2.2.1.all (fun t => decide (t.2.2.2.2.length <= 4294967296)) && (decide (b.2.2.2.2.1.length <= 4294967296) && decide (b.2.2.2.2.2.length <= 4294967296)))
theorem Qa2 {b : MBat} : smB b = true ↔ b.2.2.1.length <= 4294967296 /\ (∀ t ∈ b.2.2.1, t.2.2.2.2.length <= 4294967296) /\ b.2.2.2.2.1.length <= 4294967296 /\ b.2.2.2.2.2.length <= 4294967296 := by
  unfold smB; simp only [Bool.and_eq_true, decide_eq_true_eq, List.all_eq_true]
def mixes (m : Int) (l : List Int) : Int := l.foldl mix m
def mixPre (m : Int) (l : List Int) : Bool := decide (0 <= m) && (decide (m < 999983) && decide (l.length <= 4294967296))
theorem Qho {m : Int} {l : List Int} : mixPre m l = true ↔ mkR m /\ l.length <= 4294967296 := by
  unfold mixPre mkR; simp only [Bool.and_eq_true, decide_eq_true_eq]
  exact ⟨fun h => ⟨⟨h.1, h.2.1⟩, h.2.2⟩, fun h => ⟨h.1.1, h.1.2, h.2⟩⟩
theorem mix_w {m n : Int} (h : mkR m) : Int.tmod (w64 (w64 (w64 (w64 (m * 8191) + Int.tmod n 999983) + 999983) + 7)) 999983 = mix m n := by
  obtain ⟨h1, h2⟩ := Qiq (n := n) h
  rw [Qac (x := m * 8191) (by omega) (by omega), Qac (x := m * 8191 + Int.tmod n 999983) (by omega) (by omega), Qac (x := m * 8191 + Int.tmod n 999983 + 999983) (by omega) (by omega), Qac (x := m * 8191 + Int.tmod n 999983 + 999983 + 7) (by omega) (by omega)]
  rfl
end Go.Vm


set_option linter.unusedVariables false
set_option linter.unusedSimpArgs false
namespace Go.Vm
/-- A loop that says whether one is so, and goes on behind it. -/
theorem Qm2 {α : Type} (xs : List α) (p : α -> Bool) (z : Bool) (F : Nat -> Nat -> Option (Bool × Unit)) (hend : ∃ k, F k xs.length = some (z, ()))
    (hstep : ∀ k i x r, xs.drop i = x :: r -> i < xs.length -> F (k + 1) i = bif p x then some (true, ()) else F k (i + 1)) : ∃ k, F k 0 = some (xs.any p || z, ()) := by
  have go : ∀ (m i : Nat), i + m = xs.length -> ∃ k, F k i = some ((xs.drop i).any p || z, ()) := by
    intro m
    induction m with
    | zero =>
      intro i h
      have : i = xs.length := by omega
      subst this
      rw [List.drop_length]
      exact hend
    | succ m ih =>
      intro i h
      have hi : i < xs.length := by omega
      have hd := List.drop_eq_getElem_cons hi
      cases hp : p xs[i]
      · obtain ⟨k, hk⟩ := ih (i + 1) (by omega)
        refine ⟨k + 1, ?_⟩
        rw [hstep k i _ _ hd hi, hd, hp, hk, List.any_cons, hp]; rfl
      · refine ⟨1, ?_⟩
        rw [hstep 0 i _ _ hd hi, hd, hp, List.any_cons, hp]; rfl
  have := go xs.length 0 (by omega)
  rw [List.drop_zero] at this
  exact this
def mixW (m n : Int) : Int := Int.tmod (w64 (w64 (w64 (w64 (m * 8191) + Int.tmod n 999983) + 999983) + 7)) 999983
theorem Qcg {m n : Int} (h : mkR m) : mixW m n = mix m n := mix_w h
def sigsOk (b : MBat) : Bool := b.2.2.2.2.1.all sigOk
theorem Qm3 {s : MSig} : sigOk s = true ↔ (1 <= s.1 /\ s.1 <= 5) /\ signs s.2.1 = true /\ (0 <= s.2.2 /\ s.2.2 <= 999982) := by
  unfold sigOk; rw [Bool.and_eq_true, Bool.and_eq_true, Qap, Qap]
theorem Qls {b : MBat} (h : sigsOk b = true) : hands b = b.2.2.2.2.1.any (fun s => decide (1 <= s.1) && (decide (s.1 <= 5) && hand1 b s)) := by
  unfold hands
  rw [Bool.eq_iff_iff, List.any_eq_true, List.any_eq_true]
  constructor
  · rintro ⟨s, hs, h1⟩
    have h2 := (Qm3.1 (List.all_eq_true.1 h s hs)).1
    exact ⟨s, hs, by rw [h1, decide_eq_true h2.1, decide_eq_true h2.2]; rfl⟩
  · rintro ⟨s, hs, h1⟩
    simp only [Bool.and_eq_true] at h1
    exact ⟨s, hs, h1.2.2⟩
theorem Qlt (b : MBat) {u : Int} (hu : u <= 5) : (b.2.2.2.2.1.any (fun s => decide (s.1 = u) && hand1 b s) || b.2.2.2.2.1.any (fun s => decide (u + 1 <= s.1) && (decide (s.1 <= 5) && hand1 b s))) = b.2.2.2.2.1.any (fun s => decide (u <= s.1) && (decide (s.1 <= 5) && hand1 b s)) := by
  rw [Bool.eq_iff_iff, Bool.or_eq_true, List.any_eq_true, List.any_eq_true, List.any_eq_true]
  simp only [Bool.and_eq_true, decide_eq_true_eq]
  constructor
  · rintro (⟨s, hs, h1, h2⟩ | ⟨s, hs, h1, h2, h3⟩)
    · exact ⟨s, hs, by omega, by omega, h2⟩
    · exact ⟨s, hs, by omega, h2, h3⟩
  · rintro ⟨s, hs, h1, h2, h3⟩
    by_cases e : s.1 = u
    · exact .inl ⟨s, hs, e, h3⟩
    · exact .inr ⟨s, hs, by omega, h2, h3⟩
theorem Qlu (b : MBat) : b.2.2.2.2.1.any (fun s => decide ((6 : Int) <= s.1) && (decide (s.1 <= 5) && hand1 b s)) = false := by
  rw [Bool.eq_false_iff]
  intro h
  obtain ⟨s, hs, h1⟩ := List.any_eq_true.1 h
  simp only [Bool.and_eq_true, decide_eq_true_eq] at h1
  omega
/-! ### What a batch that is ok has -/
theorem Qel {b : MBat} : batOk b = true ↔ ((0 <= b.1 /\ b.1 <= 5) /\ (1 <= b.2.1 /\ b.2.1 <= 10000) /\ (1 <= b.2.2.1.length /\ b.2.2.1.length <= 4) /\ (1 <= b.2.2.2.1 /\ b.2.2.2.1 <= 4) /\ tstsOk none b.2.2.1 = true /\ b.2.2.2.2.1.length <= 6 /\ sigsOk b = true /\ b.2.2.2.2.2.length <= 3) /\ (freed b.2.2.2.1 = true -> gate b = true) := by
  unfold batOk batOkA sigsOk
  simp only [Bool.and_eq_true, Bool.or_eq_true, Qap, decide_eq_true_eq, Bool.not_eq_true']
  constructor
  · rintro ⟨⟨h1, h2, h3, h4, h5, h6, h7, h8⟩, h9⟩
    exact ⟨⟨h1, h2, by omega, h4, h5, h6, h7, h8⟩, fun hf => h9.resolve_left (by rw [hf]; decide)⟩
  · rintro ⟨⟨h1, h2, h3, h4, h5, h6, h7, h8⟩, h9⟩
    refine ⟨⟨h1, h2, by omega, h4, h5, h6, h7, h8⟩, ?_⟩
    cases hf : freed b.2.2.2.1
    · exact .inl rfl
    · exact .inr (h9 hf)
theorem Qe9 {α : Type} {ok : α -> Bool} {key : α -> Int} : ∀ {l : List α} {p : Option Int}, riseL ok key p l = true -> l.all ok = true
  | [], _, _ => rfl
  | t :: r, p, h => by
    unfold riseL at h
    simp only [Bool.and_eq_true] at h
    rw [List.all_cons, h.1, Qe9 h.2.2]; rfl
theorem Qm4 {b : MBat} (h : batOk b = true) : smB b = true := by
  obtain ⟨⟨_, _, h3, _, h5, h6, _, h8⟩, _⟩ := Qel.1 h
  refine Qa2.2 ⟨by omega, fun t ht => ?_, by omega, by omega⟩
  have := Qiu (List.all_eq_true.1 (Qe9 h5) t ht)
  omega
theorem Qlv {b : MBat} : isOpen b = true ↔ batOk b = true /\ b.2.2.2.1 = 1 := by
  unfold isOpen; rw [Bool.and_eq_true, decide_eq_true_eq]
theorem Qgh (l : List MTst) (n : Int) : findT l n = -1 ∨ (0 <= findT l n /\ findT l n < l.length) := Qkf _ l
end Go.Vm


set_option linter.unusedVariables false
set_option linter.unusedSimpArgs false
namespace Go.Vm
theorem Qj6 {α : Type} {ok : α -> Bool} {key : α -> Int} : ∀ {l : List α} {p : Option Int} {i : Nat} {t : α}, riseL ok key p l = true -> ok t = true -> (∀ x, l[i]? = some x -> key t = key x) -> riseL ok key p (l.set i t) = true
  | [], p, i, t, h, _, _ => h
  | x :: r, p, 0, t, h, h1, h2 => by
    have h2 := h2 x rfl
    unfold riseL at h
    simp only [Bool.and_eq_true] at h
    show (ok t && (rises p (key t) && riseL ok key (some (key t)) r)) = true
    rw [h1, h2, h.2.1, h.2.2]; rfl
  | x :: r, p, i + 1, t, h, h1, h2 => by
    unfold riseL at h
    simp only [Bool.and_eq_true] at h
    show (ok x && (rises p (key x) && riseL ok key (some (key x)) (r.set i t))) = true
    rw [h.1, h.2.1, Qj6 h.2.2 h1 (fun y hy => h2 y hy)]; rfl
theorem Qlw {t : MTst} {w : Int} {v : MDec} {c : Int} (h : tstOk t = true) : tstOk (tstTurn t w v c).1 = true /\ (tstTurn t w v c).1.1 = t.1 := by
  have hp : ∀ v, tstOk (tstPut t v).1 = true /\ (tstPut t v).1.1 = t.1 := fun v => by
    cases hc : (tstPut t v).2
    · rw [Qm1 hc]; exact ⟨h, rfl⟩
    · exact ⟨(Qhm hc).2, by rw [(Qhm hc).1]; rfl⟩
  have hca : ∀ c, tstOk (tstCause t c).1 = true /\ (tstCause t c).1.1 = t.1 := fun c => by
    cases hc : (tstCause t c).2
    · rw [Qki hc]; exact ⟨h, rfl⟩
    · exact ⟨(Qfw hc).2, by rw [(Qfw hc).1]; rfl⟩
  have hm : ∀ v, tstOk (tstMore t v).1 = true /\ (tstMore t v).1.1 = t.1 := fun v => by
    cases hc : (tstMore t v).2
    · rw [Qlq hc]; exact ⟨h, rfl⟩
    · exact ⟨(Qgg hc).2, by rw [(Qgg hc).1]; rfl⟩
  unfold tstTurn
  split
  · exact hp v
  · split
    · exact hca c
    · split
      · exact hm v
      · exact ⟨h, rfl⟩
/-- What a turning of a batch leaves. -/
structure TurnOk (b b' : MBat) (u o : Int) : Prop where
  ok : batOk b' = true
  spec : b'.1 = b.1
  boxes : b'.2.1 = b.2.1
  asks : b'.2.2.1.map (·.1) = b.2.2.1.map (·.1)
  sigs : ∀ s ∈ b'.2.2.2.2.1, s ∈ b.2.2.2.2.1 ∨ (s.1 = u /\ s.2.1 = o)
theorem TurnOk.self {b : MBat} {u o : Int} (h : batOk b = true) : TurnOk b b u o := ⟨h, rfl, rfl, rfl, fun s hs => .inl hs⟩
theorem Qkx {l : List MTst} {i : Nat} (h : i < l.length) : l[i]? = some (l.getD i t0) := by
  rw [List.getD_eq_getElem?_getD, List.getElem?_eq_getElem h]; rfl
theorem Qnt {b : MBat} (h : isOpen b = true) : batOk b = true /\ b.2.2.2.1 = 1 := Qlv.1 h
theorem Qlx {b : MBat} {n w : Int} {v : MDec} {c u o : Int} (h : batOk b = true) : TurnOk b (batTest b n w v c).1 u o := by
  unfold batTest
  cases hc : (isOpen b && !decide (findT b.2.2.1 n < 0))
  · exact TurnOk.self h
  · simp only [Bool.and_eq_true, Bool.not_eq_true', decide_eq_false_iff_not] at hc
    obtain ⟨ho, hf⟩ := hc
    have hr := (Qgh b.2.2.1 n).resolve_left (by omega)
    have hi : (findT b.2.2.1 n).toNat < b.2.2.1.length := by omega
    obtain ⟨⟨h1, h2, h3, h4, h5, h6, h7, h8⟩, _⟩ := Qel.1 h
    have hs := (Qnt ho).2
    have hmem : b.2.2.1.getD (findT b.2.2.1 n).toNat t0 ∈ b.2.2.1 := by
      rw [List.getD_eq_getElem?_getD, List.getElem?_eq_getElem hi]
      exact List.getElem_mem hi
    obtain ⟨g1, g2⟩ := Qlw (w := w) (v := v) (c := c) (List.all_eq_true.1 (Qe9 h5) _ hmem)
    refine ⟨Qel.2 ⟨⟨h1, h2, ?_, h4, ?_, h6, h7, h8⟩, fun hf => ?_⟩, rfl, rfl, ?_, fun s hs => .inl hs⟩
    · show 1 <= (b.2.2.1.set _ _).length /\ (b.2.2.1.set _ _).length <= 4
      rw [List.length_set]; exact h3
    · refine Qj6 h5 g1 fun x hx => ?_
      rw [Qkx hi] at hx
      show (tstTurn (b.2.2.1.getD (findT b.2.2.1 n).toNat t0) w v c).1.1.1 = x.1.1
      rw [g2, Option.some.inj hx]
    · have hf : freed b.2.2.2.1 = true := hf
      rw [hs] at hf; cases hf
    · show (b.2.2.1.set _ _).map (·.1) = _
      rw [List.map_set, g2]
      refine Qj1 ?_
      rw [List.getElem?_map, Qkx hi]; rfl
end Go.Vm


set_option linter.unusedVariables false
set_option linter.unusedSimpArgs false
namespace Go.Vm
/-! ### Sizes -/
def sq (a : Int) (k : Int -> Int) : Int := if a < 0 then -1 else k a
def siN (n : Nat) (l : Int) : Int := if l < (n : Int) then -1 else l - (n : Int)
def siTst (t : MTst) (l : Int) : Int := siN t.2.2.2.2.length l
def siBat (b : MBat) (l : Int) : Int := sq (szList siTst b.2.2.1 l) fun l => sq (siN b.2.2.2.2.1.length l) fun l => sq (siN b.2.2.2.2.2.length l) fun l => l
theorem p_sq {a : Int} {k : Int -> Int} {X : Option (Int × Unit)} (h : 0 <= a -> X = some (k a, ())) : (bif decide (a < (0 : Int)) then (some ((-1 : Int), ())) else X) = some (sq a k, ()) := by
  unfold sq
  by_cases h1 : a < 0
  · rw [if_pos h1, decide_eq_true h1]; rfl
  · rw [if_neg h1, decide_eq_false h1]; exact h (by omega)
theorem sq_nn {a : Int} {k : Int -> Int} (h : 0 <= sq a k) : 0 <= a /\ sq a k = k a := by
  unfold sq at h ⊢
  by_cases h1 : a < 0
  · rw [if_pos h1] at h; omega
  · rw [if_neg h1] at h ⊢; exact ⟨by omega, rfl⟩
theorem Qm5 {n : Nat} {l : Int} (h : 0 <= l) : siN n l <= l := by unfold siN; split <;> omega
theorem Qeq {n : Nat} {l : Int} (h : 0 <= siN n l) : siN n l = l - n /\ (n : Int) <= l := by
  unfold siN at h ⊢
  by_cases h1 : l < (n : Int)
  · rw [if_pos h1] at h; omega
  · rw [if_neg h1]; exact ⟨rfl, by omega⟩
theorem Qm6 {α : Type} {f : α -> Int -> Int} {xs : List α} {l : Int} (h : 0 <= szList f xs l) : (xs.length : Int) <= l := by
  unfold szList at h
  split at h <;> omega
theorem Qdh : Dec1 siTst := fun t l h => Qm5 h
theorem Qkk (t : MTst) (l : Int) (h : l <= 1048576) (h2 : 0 <= siTst t l) : t.2.2.2.2.length <= 1048576 := by
  have := Qeq (n := t.2.2.2.2.length) (l := l) h2; omega
theorem Qgi {b : MBat} {l : Int} (h : l <= 1048576) (h2 : 0 <= siBat b l) : smB b = true := by
  obtain ⟨g1, e1⟩ := sq_nn h2
  unfold siBat at h2
  rw [e1] at h2
  obtain ⟨g2, e2⟩ := sq_nn h2
  rw [e2] at h2
  obtain ⟨g3, e3⟩ := sq_nn h2
  have h0 := Qm6 g1
  have k1 := Qln (f := siTst) Qdh (P := fun t => t.2.2.2.2.length <= 1048576) Qkk h g1
  have k1' := Qip (f := siTst) (xs := b.2.2.1) Qdh (l := l) (by omega)
  have k2 := Qeq g2
  have k3 := Qeq g3
  exact Qa2.2 ⟨by omega, fun t ht => Nat.le_trans (k1.2 t ht) (by decide), by omega, by omega⟩
theorem Qly (t : MTst) (l : Int) (h0 : 0 <= l) (h1 : 0 <= siTst t l) : (szT t : Int) <= 10 + 10 * (l - siTst t l) := by
  have e := Qeq (n := t.2.2.2.2.length) (l := l) h1
  have e' : siTst t l = l - t.2.2.2.2.length := e.1
  unfold szT
  rw [Qcv, e']
  omega
theorem Qlz (b : MBat) (l : Int) (h0 : 0 <= l) (h1 : 0 <= siBat b l) : (szB b : Int) <= 10 + 10 * (l - siBat b l) := by
  have h2 := h1
  obtain ⟨g1, e1⟩ := sq_nn h2
  unfold siBat at h2
  rw [e1] at h2
  obtain ⟨g2, e2⟩ := sq_nn h2
  rw [e2] at h2
  obtain ⟨g3, e3⟩ := sq_nn h2
  have e : siBat b l = _ := e1.trans (e2.trans e3)
  have k1 := Qkj (f := siTst) (sz := szT) (xs := b.2.2.1) Qdh Qly h0 g1
  have k2 := Qeq g2
  have k3 := Qeq g3
  rw [e]
  unfold szB
  rw [Qcv, Qcv]
  omega
/-- A batch by itself, as a law sees it: what its slices hold is marked. -/
def mkBatI (b : MBat) (k : Int) : MBat × Int :=
  ((b.1, b.2.1, (markL mkTst b.2.2.1 k).1, b.2.2.2.1, (markL mkSig b.2.2.2.2.1 (markL mkTst b.2.2.1 k).2).1, (markL mkBool b.2.2.2.2.2 (markL mkSig b.2.2.2.2.1 (markL mkTst b.2.2.1 k).2).2).1),
    (markL mkBool b.2.2.2.2.2 (markL mkSig b.2.2.2.2.1 (markL mkTst b.2.2.1 k).2).2).2)
def szBI (b : MBat) : Nat := szL szT b.2.2.1 + szL (fun _ => 3) b.2.2.2.2.1 + szL (fun _ => 1) b.2.2.2.2.2
theorem Qem : MkOk mkBatI szBI where
  go := fun b k => by
    have h1 := Qcp.list.go b.2.2.1 k
    have h2 := Qco.list.go b.2.2.2.2.1 (markL mkTst b.2.2.1 k).2
    have h3 := Qb9.list.go b.2.2.2.2.2 (markL mkSig b.2.2.2.2.1 (markL mkTst b.2.2.1 k).2).2
    show (markL mkBool b.2.2.2.2.2 (markL mkSig b.2.2.2.2.1 (markL mkTst b.2.2.1 k).2).2).2 = k + ((szL szT b.2.2.1 + szL (fun _ => 3) b.2.2.2.2.1 + szL (fun _ => 1) b.2.2.2.2.2 : Nat) : Int)
    omega
  idem := fun b k => by
    unfold mkBatI
    simp only [Qcp.list.idem, Qco.list.idem, Qb9.list.idem]
theorem Qgj {b : MBat} {l : Int} (h0 : 0 <= l) (h1 : 0 <= siBat b l) : (szBI b : Int) <= 10 + 10 * (l - siBat b l) := by
  have := Qlz b l h0 h1
  have e : szB b = 3 + szBI b := by unfold szB szBI; omega
  omega
/-- Same, field by field. -/
theorem Qdw {s t : Bool} {X : Option (Bool × Unit)} (h : X = some (t, ())) : (bif (bif s then false else true) then (some (false, ())) else X) = some (s && t, ()) := by
  cases s
  · rfl
  · exact h
end Go.Vm

set_option linter.unusedVariables false
set_option linter.unusedSimpArgs false
namespace Go.Vm
theorem Qom {t : MTst} (h : tstOk t = true) : szT t <= 14 := by
  have := Qiu h
  unfold szT
  rw [Qcv]; omega
theorem Qon {b : MBat} (h : batOk b = true) : szB b <= 80 := by
  obtain ⟨⟨_, _, h3, _, h5, h6, _, h8⟩, _⟩ := Qel.1 h
  have h1 := Qmz (sz := szT) (c := 14) b.2.2.1 fun t ht => Qom (List.all_eq_true.1 (Qe9 h5) t ht)
  unfold szB
  rw [Qcv, Qcv]
  have : 14 * b.2.2.1.length <= 14 * 4 := Nat.mul_le_mul_left _ h3.2
  omega
theorem Qn7 {b : MBat} (h : batOk b = true) : szBI b <= 80 := by
  have := Qon h
  have e : szB b = 3 + szBI b := by unfold szB szBI; omega
  omega
/-- Room for a batch. -/
def BatRoom (b : MBat) : Prop := smB b = true /\ mkPre szBI b 1 = true
theorem Ql0 {b : MBat} (h : 0 <= siBat b 1048576) : BatRoom b := by
  have := Qgj (b := b) (l := 1048576) (by decide) h
  exact ⟨Qgi (Int.le_refl _) h, Qan.2 ⟨by decide, by omega⟩⟩
theorem Qn8 {b : MBat} (h : batOk b = true) : BatRoom b := by
  have := Qn7 h
  exact ⟨Qm4 h, Qan.2 ⟨by decide, by omega⟩⟩
theorem Qi7 {b : MBat} {n w : Int} {v : MDec} {c : Int} (h : BatRoom b) : BatRoom (batTest b n w v c).1 := by
  cases hb : batOk b
  · have : isOpen b = false := by unfold isOpen; rw [hb]; rfl
    have e : (batTest b n w v c).1 = b := by unfold batTest; rw [this]; rfl
    rw [e]; exact h
  · exact Qn8 (Qlx (u := 0) (o := 0) hb).ok
end Go.Vm



set_option linter.unusedVariables false
set_option linter.unusedSimpArgs false
namespace Go.Vm
/-- What a request needs, for a house to stay one. -/
def ReqG (r : MReq) : Prop := 0 <= r.2.2.1 /\ (r.2.1 = 3 -> 0 <= r.2.2.2.2.1 /\ r.2.2.2.2.1 <= 10000)
end Go.Vm

set_option linter.unusedVariables false
set_option linter.unusedSimpArgs false
namespace Go.Vm
theorem Qfa (a b : ByteArray) : (ByteArray.append a b).size = a.size + b.size := ByteArray.size_append
theorem Qn9 {a b : ByteArray} (h : a.size + b.size <= 4294967296) : fitS a b = true := decide_eq_true h
theorem Qoo (x : Int) : -9223372036854775808 <= w64 x /\ w64 x <= 9223372036854775807 := by
  unfold w64; rw [IntKind.wrap_i64]; omega
/-! ### Digits -/
theorem Qiy {h : Int} (h1 : -9223372036854775808 <= h) (h2 : h <= 9223372036854775807) : w64 (Int.tdiv h 10) = Int.tdiv h 10 /\ (-9223372036854775808 <= Int.tdiv h 10 /\ Int.tdiv h 10 <= 9223372036854775807) /\ (h <= 0 -> Int.tdiv h 10 <= 0) /\ (0 < h -> Int.tdiv h 10 = h / 10) := by
  have e : Int.tdiv h 10 = if 0 <= h then h / 10 else -((-h) / 10) := by
    by_cases hp : 0 <= h
    · rw [if_pos hp, Int.tdiv_eq_ediv_of_nonneg hp]
    · rw [if_neg hp]
      have e2 : Int.tdiv h 10 = -(Int.tdiv (-h) 10) := by rw [Int.neg_tdiv, Int.neg_neg]
      rw [e2, Int.tdiv_eq_ediv_of_nonneg (by omega)]
  have hr : -9223372036854775808 <= Int.tdiv h 10 /\ Int.tdiv h 10 <= 9223372036854775807 := by
    rw [e]; split <;> omega
  exact ⟨Qac hr.1 hr.2, hr, fun hz => by rw [e]; split <;> omega, fun hz => by rw [e, if_pos (by omega)]⟩
structure DigF (w : Int) (one : Int -> ByteArray) (F : Nat -> Int -> ByteArray -> Option (ByteArray × Unit)) : Prop where
  w20 : w <= 20
  one1 : ∀ h, (one h).size = 1
  more : ∀ k h s, (0 < h ∨ (s.size : Int) < w) -> fitS (one h) s = true -> F (k + 1) h s = F k (w64 (Int.tdiv h 10)) (ByteArray.append (one h) s)
  done : ∀ k h s, h <= 0 -> w <= (s.size : Int) -> F (k + 1) h s = some (s, ())
theorem DigF.next {w : Int} {one : Int -> ByteArray} {F : Nat -> Int -> ByteArray -> Option (ByteArray × Unit)} (D : DigF w one F) {h : Int} {s : ByteArray} {P : ByteArray × Unit -> Prop} (hc : 0 < h ∨ (s.size : Int) < w) (hs : s.size <= 1000)
    (hn : WithFuel (fun k => F k (w64 (Int.tdiv h 10)) (ByteArray.append (one h) s)) P) : WithFuel (fun k => F k h s) P := by
  obtain ⟨k, hk⟩ := hn
  refine ⟨k + 1, ?_⟩
  show Gets (F (k + 1) h s) P
  rw [D.more k h s hc (Qn9 (by rw [D.one1]; omega))]
  exact hk
theorem DigF.end_ {w : Int} {one : Int -> ByteArray} {F : Nat -> Int -> ByteArray -> Option (ByteArray × Unit)} (D : DigF w one F) {h : Int} {s : ByteArray} {P : ByteArray × Unit -> Prop} (hc : h <= 0) (hw : w <= (s.size : Int)) (hp : P (s, ())) : WithFuel (fun k => F k h s) P :=
  ⟨1, by show Gets (F (0 + 1) h s) P; rw [D.done 0 h s hc hw]; exact Qmw hp⟩
theorem DigF.low {w : Int} {one : Int -> ByteArray} {F : Nat -> Int -> ByteArray -> Option (ByteArray × Unit)} (D : DigF w one F) : ∀ (n : Nat) (h : Int) (s : ByteArray) (B : Nat), -9223372036854775808 <= h -> h <= 0 -> s.size + n <= B -> 20 <= s.size + n -> B <= 1000 -> WithFuel (fun k => F k h s) (fun v => v.1.size <= B)
  | 0, h, s, B, h1, h2, h3, h4, h5 => by
    have := D.w20
    exact D.end_ h2 (by omega) (show s.size <= B by omega)
  | n + 1, h, s, B, h1, h2, h3, h4, h5 => by
    by_cases hw : (s.size : Int) < w
    · obtain ⟨e1, e2, e3, _⟩ := Qiy h1 (by omega)
      refine D.next (.inr hw) (by omega) ?_
      rw [e1]
      have := D.one1 h
      exact D.low n _ _ B e2.1 (e3 h2) (by rw [Qfa]; omega) (by rw [Qfa]; omega) h5
    · exact D.end_ h2 (by omega) (show s.size <= B by omega)
theorem DigF.high {w : Int} {one : Int -> ByteArray} {F : Nat -> Int -> ByteArray -> Option (ByteArray × Unit)} (D : DigF w one F) : ∀ (m : Nat) (h : Int) (s : ByteArray) (B : Nat), -9223372036854775808 <= h -> h <= 9223372036854775807 -> h < 10 ^ m -> s.size + m + 20 <= B -> B <= 1000 -> WithFuel (fun k => F k h s) (fun v => v.1.size <= B)
  | 0, h, s, B, h1, h2, h3, h4, h5 => D.low 20 h s B h1 (by have : h < 1 := h3; omega) (by omega) (by omega) h5
  | m + 1, h, s, B, h1, h2, h3, h4, h5 => by
    by_cases hp : 0 < h
    · obtain ⟨e1, e2, _, e4⟩ := Qiy h1 h2
      refine D.next (.inl hp) (by omega) ?_
      rw [e1]
      have := D.one1 h
      have h6 : h < 10 ^ m * 10 := h3
      exact D.high m _ _ B e2.1 e2.2 (by rw [e4 hp]; omega) (by rw [Qfa]; omega) h5
    · exact D.low 20 h s B h1 (by omega) (by omega) (by omega) h5
theorem DigF.all {w : Int} {one : Int -> ByteArray} {F : Nat -> Int -> ByteArray -> Option (ByteArray × Unit)} (D : DigF w one F) (h : Int) (s : ByteArray) (hs : s.size = 0) : WithFuel (fun k => F k h s) (fun v => v.1.size <= 60) := by
  by_cases hc : 0 < h ∨ (s.size : Int) < w
  · refine D.next hc (by omega) ?_
    have hb := Qoo (Int.tdiv h 10)
    have := D.one1 h
    exact D.high 19 _ _ 60 hb.1 hb.2 (Int.lt_of_le_of_lt hb.2 (by decide)) (by rw [Qfa]; omega) (by decide)
  · exact D.end_ (by omega) (by omega) (show s.size <= 60 by omega)
/-- What a drawn request is. -/
def ReqD (r : MReq) : Prop := (1 <= r.1 /\ r.1 <= 6) /\ (0 <= r.2.2.1 /\ r.2.2.1 <= 9) /\ r.2.2.2.2.2.2.length <= 5 /\ (1 <= r.2.1 /\ r.2.1 <= 12) /\ (r.2.1 = 3 -> 0 <= r.2.2.2.2.1 /\ r.2.2.2.2.1 <= 10000)
theorem ReqD.g {r : MReq} (h : ReqD r) : ReqG r := ⟨h.2.1.1, h.2.2.2.2⟩
end Go.Vm
