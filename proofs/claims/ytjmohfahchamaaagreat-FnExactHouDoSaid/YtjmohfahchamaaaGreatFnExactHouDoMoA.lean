/- What the functions are, in plain Lean, part 1. No condition. -/
import Derived.Test.YtjmohfahchamaaaGreatFnExactHouDoVmC
set_option linter.unusedVariables false
set_option linter.unusedSimpArgs false
namespace Go.Vm

theorem Qb9 {α : Type} (c : Bool) (a b : α) : (bif c then some a else some b) = some (bif c then a else b) := by cases c <;> rfl
theorem Qca {α β : Type} (c : Bool) (a b : α) (z : β) : (bif c then (a, z) else (b, z)) = ((bif c then a else b), z) := by cases c <;> rfl
theorem Qa1 (c : Bool) : (bif c then false else true) = !c := by cases c <;> rfl
theorem Qcb (a b : Bool) : (bif a then b else false) = (a && b) := by cases a <;> rfl
theorem Qck {α : Type} (c : Bool) (a b : α) : (bif !c then a else b) = (bif c then b else a) := by cases c <;> rfl
/-- A place within. -/
theorem Qac {i n : Nat} (h : i < n) : (bif decide ((0 : Int) <= (i : Int)) then decide ((i : Int) < (n : Int)) else false) = true := by
  rw [show decide ((0 : Int) <= (i : Int)) = true from decide_eq_true (by omega)]
  exact decide_eq_true (by omega)
theorem Qad {i n : Nat} (h : i < n) : decide ((i : Int) < (n : Int)) = true := decide_eq_true (by omega)
theorem Qab {i n : Nat} (h : n <= i) : decide ((i : Int) < (n : Int)) = false := decide_eq_false (by omega)
theorem Qaf {i : Nat} (h : i <= 4294967296) : w64 ((i : Int) + (1 : Int)) = ((i + 1 : Nat) : Int) := by
  rw [Qae (by omega) (by omega)]; omega

theorem Qaa {S : Sh} {xs r : List S.den} {x : S.den} {i : Nat} (h : xs.drop i = x :: r) : rdL (e := S) xs (i : Int) = x := by
  have h1 : xs[i]? = some x := by
    have := congrArg List.head? h
    rwa [List.head?_drop] at this
  unfold rdL
  rw [Int.toNat_natCast, List.getD_eq_getElem?_getD, h1]; rfl

theorem Qrr {S : Sh} {xs : List S.den} {i : Nat} (h : i < xs.length) : rdL (e := S) xs (i : Int) = xs[i] := by
  unfold rdL
  rw [Int.toNat_natCast, List.getD_eq_getElem?_getD, List.getElem?_eq_getElem h]; rfl

theorem Qka {α : Type} {xs r : List α} {x : α} {i : Nat} (h : xs.drop i = x :: r) : xs.drop (i + 1) = r := by
  have : xs.drop (i + 1) = (xs.drop i).drop 1 := by rw [List.drop_drop]
  rw [this, h]; rfl

/-- A loop over a list's places: 'G': what it comes to, of what is left. -/
theorem Qaq {α σ β : Type} (xs : List α) (F : Nat -> Nat -> σ -> Option β) (G : List α -> Nat -> σ -> β) (Inv : Nat -> σ -> Prop)
    (hend : ∀ k s, Inv xs.length s -> F (k + 1) xs.length s = some (G [] xs.length s))
    (hstep : ∀ k i x r s, xs.drop i = x :: r -> i < xs.length -> Inv i s ->
      F (k + 1) i s = some (G (x :: r) i s) ∨ ∃ s', Inv (i + 1) s' /\ F (k + 1) i s = F k (i + 1) s' /\ G (x :: r) i s = G r (i + 1) s') :
    ∀ (m i : Nat) (s : σ), i + m = xs.length -> Inv i s -> F (m + 1) i s = some (G (xs.drop i) i s)
  | 0, i, s, h, hi => by
    have : i = xs.length := by omega
    subst this
    rw [List.drop_length]; exact hend 0 s hi
  | m + 1, i, s, h, hi => by
    have hlt : i < xs.length := by omega
    have hd := List.drop_eq_getElem_cons hlt
    rcases hstep (m + 1) i _ _ s hd hlt hi with h1 | ⟨s', h1, h2, h3⟩
    · rw [h1, hd]
    · rw [h2, hd, h3]
      exact Qaq xs F G Inv hend hstep m (i + 1) s' (by omega) h1

/-- A loop that counts: 'G': what it comes to, from a place on. -/
theorem Qfw {σ β : Type} (n : Nat) (F : Nat -> Nat -> σ -> Option β) (G : Nat -> σ -> β) (Inv : Nat -> σ -> Prop)
    (hend : ∀ k s, Inv n s -> F (k + 1) n s = some (G n s))
    (hstep : ∀ k i s, i < n -> Inv i s -> F (k + 1) i s = some (G i s) ∨ ∃ s', Inv (i + 1) s' /\ F (k + 1) i s = F k (i + 1) s' /\ G i s = G (i + 1) s') :
    ∀ (m i : Nat) (s : σ), i + m = n -> Inv i s -> F (m + 1) i s = some (G i s)
  | 0, i, s, h, hi => by
    have : i = n := by omega
    subst this; exact hend 0 s hi
  | m + 1, i, s, h, hi => by
    rcases hstep (m + 1) i s (by omega) hi with h1 | ⟨s', h1, h2, h3⟩
    · exact h1
    · rw [h2, h3]; exact Qfw n F G Inv hend hstep m (i + 1) s' (by omega) h1
end Go.Vm

set_option linter.unusedVariables false
set_option linter.unusedSimpArgs false
namespace Go.Vm

abbrev MDec : Type := Int × Int
abbrev MAsk : Type := Int × MDec × MDec × Int
abbrev MSpc : Type := List MAsk × Int
abbrev MTst : Type := MAsk × Int × MDec × Int × List MDec
abbrev MSig : Type := Int × Int × Int
abbrev MBat : Type := Int × Int × List MTst × Int × List MSig × List Bool
abbrev MHou : Type := List Int × List MSpc × List MBat
abbrev MReq : Type := Int × Int × Int × Int × Int × MDec × List MAsk
def inq (n lo hi : Int) : Bool := decide (lo <= n) && decide (n <= hi)
theorem Qah {n lo hi : Int} : inq n lo hi = true ↔ lo <= n /\ n <= hi := by simp [inq]

def pw (n : Int) : Int := 10 ^ n.toNat
theorem Qe1 (n : Int) : 0 < pw n := by unfold pw; exact Int.pow_pos (by decide)
theorem pw_le {n : Int} (h : n <= 3) : pw n <= 1000 := by
  unfold pw
  by_cases h0 : n < 0
  · rw [Int.toNat_of_nonpos (by omega)]; decide
  · have : n = 0 ∨ n = 1 ∨ n = 2 ∨ n = 3 := by omega
    rcases this with rfl | rfl | rfl | rfl <;> decide

def near (n d : Int) : Int := if n < 0 then -((2 * -n + d) / (2 * d)) else (2 * n + d) / (2 * d)
def decOk (d : MDec) : Bool := inq d.2 0 3 && inq d.1 (-9999 * pw d.2) (9999 * pw d.2)
theorem Qgp {d : MDec} : decOk d = true ↔ (0 <= d.2 /\ d.2 <= 3) /\ -9999 * pw d.2 <= d.1 /\ d.1 <= 9999 * pw d.2 := by
  unfold decOk; rw [Bool.and_eq_true, Qah, Qah]
theorem Qpi {d : MDec} (h : decOk d = true) : -9999000 <= d.1 /\ d.1 <= 9999000 := by
  obtain ⟨⟨h1, h2⟩, h3, h4⟩ := Qgp.1 h
  have := pw_le h2
  have := Qe1 d.2
  omega

def nrPre (n d : Int) : Bool := decide (-1000000000000000 <= n) && decide (n <= 1000000000000000) && (decide (1 <= d) && decide (d <= 1000000000000000))
theorem Qcc {n d : Int} : nrPre n d = true ↔ (-1000000000000000 <= n /\ n <= 1000000000000000) /\ 1 <= d /\ d <= 1000000000000000 := by
  unfold nrPre; simp only [Bool.and_eq_true, decide_eq_true_eq]

/-- A decimal that is ok with so many places. -/
def atR (d : MDec) (p : Int) : MDec := if d.2 <= p then (d.1 * pw (p - d.2), p) else (near d.1 (pw (d.2 - p)), p)
def decAt (d : MDec) (p : Int) : MDec := bif decOk d && inq p 0 3 then atR d p else (0, 0)
def cmpI (x y : Int) : Int := if x < y then -1 else if y < x then 1 else 0
def decCmp (a b : MDec) : Int := bif decOk a && decOk b then cmpI (atR a 3).1 (atR b 3).1 else 0
def askOk (t : MAsk) : Bool := inq t.1 1 4 && (decOk t.2.1 && (decOk t.2.2.1 && (decide (decCmp t.2.1 t.2.2.1 <= 0) && inq t.2.2.2 0 3)))
def spcIn (t : MAsk) (v : MDec) : Bool := askOk t && (decOk v && (decide (decCmp t.2.1 (atR v t.2.2.2) <= 0) && decide (decCmp (atR v t.2.2.2) t.2.2.1 <= 0)))

def rises (p : Option Int) (n : Int) : Bool := match p with | none => true | some q => decide (q < n)
/-- All are ok, their numbers rise. -/
def asksOk : Option Int -> List MAsk -> Bool
  | _, [] => true
  | p, t :: r => askOk t && (rises p t.1 && asksOk (some t.1) r)
def testsOk (l : List MAsk) : Bool := inq l.length 1 4 && asksOk none l
end Go.Vm

set_option linter.unusedVariables false
set_option linter.unusedSimpArgs false
namespace Go.Vm

theorem Qfx {n : Int} (h : n <= 3) : pw n = 1 ∨ pw n = 10 ∨ pw n = 100 ∨ pw n = 1000 := by
  unfold pw
  by_cases h0 : n < 0
  · rw [Int.toNat_of_nonpos (by omega)]; exact .inl rfl
  · have : n = 0 ∨ n = 1 ∨ n = 2 ∨ n = 3 := by omega
    rcases this with rfl | rfl | rfl | rfl
    · exact .inl rfl
    · exact .inr (.inl rfl)
    · exact .inr (.inr (.inl rfl))
    · exact .inr (.inr (.inr rfl))

theorem p_decOk (d : MDec) : (bif inq d.2 0 3 then (bif decide (d.2 <= 18) then (bif decide (d.2 <= 18) then some (inq d.1 (w64 ((-9999 : Int) * pw d.2)) (w64 ((9999 : Int) * pw d.2)), ()) else none) else none) else some (false, ())) = some (decOk d, ()) := by
  unfold decOk
  cases h : inq d.2 0 3
  · rfl
  · obtain ⟨h1, h2⟩ := Qah.1 h
    have h3 := pw_le h2
    have h4 := Qe1 d.2
    rw [decide_eq_true (show d.2 <= 18 by omega), Qae (by omega) (by omega), Qae (by omega) (by omega)]
    rfl

theorem p_atR {d : MDec} {p : Int} (hd : decOk d = true) (hp : inq p 0 3 = true) :
    (bif decide (d.2 <= p) then (bif decide (w64 (p - d.2) <= 18) then some ((w64 (d.1 * pw (w64 (p - d.2))), p), ()) else none) else (bif decide (w64 (d.2 - p) <= 18) then (bif nrPre d.1 (pw (w64 (d.2 - p))) then some ((near d.1 (pw (w64 (d.2 - p))), p), ()) else none) else none)) = some (atR d p, ()) := by
  obtain ⟨⟨h1, h2⟩, h3, h4⟩ := Qgp.1 hd
  obtain ⟨h5, h6⟩ := Qah.1 hp
  obtain ⟨b1, b2⟩ := Qpi hd
  rw [Qae (x := p - d.2) (by omega) (by omega), Qae (x := d.2 - p) (by omega) (by omega), decide_eq_true (show p - d.2 <= 18 by omega), decide_eq_true (show d.2 - p <= 18 by omega)]
  unfold atR
  by_cases h : d.2 <= p
  · rw [decide_eq_true h, if_pos h, Qae]
    · rfl
    · rcases Qfx (n := p - d.2) (by omega) with e | e | e | e <;> rw [e] <;> omega
    · rcases Qfx (n := p - d.2) (by omega) with e | e | e | e <;> rw [e] <;> omega
  · rw [decide_eq_false h, if_neg h]
    have : nrPre d.1 (pw (d.2 - p)) = true := Qcc.2 ⟨⟨by omega, by omega⟩, by have := Qe1 (d.2 - p); omega, by have := pw_le (n := d.2 - p) (by omega); omega⟩
    rw [this]; rfl

theorem p_decAt (d : MDec) (p : Int) (z : Option (MDec × Unit)) (hz : decOk d = true -> inq p 0 3 = true -> z = some (atR d p, ())) :
    (bif (bif decOk d then false else true) then some (((0 : Int), (0 : Int)), ()) else (bif (bif inq p 0 3 then false else true) then some (((0 : Int), (0 : Int)), ()) else z)) = some (decAt d p, ()) := by
  unfold decAt
  cases h1 : decOk d
  · rfl
  · cases h2 : inq p 0 3
    · rfl
    · exact hz h1 h2

theorem p_decCmp (a b : MDec) (z : Option (Int × Unit)) (hz : decOk a = true -> decOk b = true -> z = some (cmpI (atR a 3).1 (atR b 3).1, ())) :
    (bif (bif decOk a then false else true) then some ((0 : Int), ()) else (bif (bif decOk b then false else true) then some ((0 : Int), ()) else z)) = some (decCmp a b, ()) := by
  unfold decCmp
  cases h1 : decOk a
  · rfl
  · cases h2 : decOk b
    · rfl
    · exact hz h1 h2

theorem p_cmpI (x y : Int) : (bif decide (x < y) then some ((-1 : Int), ()) else (bif decide (y < x) then some ((1 : Int), ()) else some ((0 : Int), ()))) = some (cmpI x y, ()) := by
  unfold cmpI
  by_cases h : x < y
  · rw [decide_eq_true h, if_pos h]; rfl
  · rw [decide_eq_false h, if_neg h]
    by_cases h2 : y < x
    · rw [decide_eq_true h2, if_pos h2]; rfl
    · rw [decide_eq_false h2, if_neg h2]; rfl

theorem in03 : inq (3 : Int) 0 3 = true := rfl
theorem Qh5 {t : MAsk} (h : askOk t = true) : inq t.2.2.2 0 3 = true := by
  unfold askOk at h
  simp only [Bool.and_eq_true] at h
  exact h.2.2.2.2

theorem p_spcIn (t : MAsk) (v : MDec) (z : Option (Bool × Unit)) (hz : askOk t = true -> decOk v = true -> z = some (decide (decCmp t.2.1 (atR v t.2.2.2) <= 0) && decide (decCmp (atR v t.2.2.2) t.2.2.1 <= 0), ())) :
    (bif (bif askOk t then false else true) then some (false, ()) else (bif (bif decOk v then false else true) then some (false, ()) else z)) = some (spcIn t v, ()) := by
  unfold spcIn
  cases h1 : askOk t
  · rfl
  · cases h2 : decOk v
    · rfl
    · exact hz h1 h2
end Go.Vm

set_option linter.unusedVariables false
set_option linter.unusedSimpArgs false
namespace Go.Vm

/-- How long a list that came in may be. -/
def okLen (n : Nat) : Bool := decide (n <= 9223372036854775807)
theorem Qaz {n : Nat} : okLen n = true ↔ n <= 9223372036854775807 := by unfold okLen; simp

open Classical in
/-- Are they the same? -/
noncomputable def same {α : Type} (a b : α) : Bool := decide (a = b)
theorem Qax {α : Type} {a b : α} : same a b = true ↔ a = b := by unfold same; simp
theorem Qaw {α : Type} (a : α) : same a a = true := Qax.2 rfl
theorem Qc0 {α : Type} {a b : α} (h : a ≠ b) : same a b = false := by unfold same; simp [h]
theorem Qar (a b : Int) : decide (a = b) = same a b := by unfold same; congr
theorem Qao {α β : Type} (a a' : α) (b b' : β) : (same a a' && same b b') = same (a, b) (a', b') := by
  rw [Bool.eq_iff_iff, Bool.and_eq_true, Qax, Qax, Qax, Prod.mk.injEq]

/-- A loop that compares. -/
theorem Qcl {α : Type} (xs ys : List α) (hl : xs.length = ys.length) (F : Nat -> Nat -> Option (Bool × Unit)) (hend : ∀ k, F (k + 1) xs.length = some (true, ()))
    (hstep : ∀ k i x y r r', xs.drop i = x :: r -> ys.drop i = y :: r' -> i < xs.length -> i < ys.length -> F (k + 1) i = bif same x y then F k (i + 1) else some (false, ())) : F (xs.length + 1) 0 = some (same xs ys, ()) := by
  have := Qaq (σ := Unit) xs (fun k i _ => F k i) (fun l i _ => (same l (ys.drop i), ())) (fun _ _ => True) (fun k s _ => by
    rw [hend, hl, List.drop_length, Qaw]) (fun k i x r s hd hi _ => by
    have hd' := List.drop_eq_getElem_cons (show i < ys.length by omega)
    have h := hstep k i x _ r _ hd hd' hi (by omega)
    by_cases hs : same x ys[i] = true
    · refine .inr ⟨(), trivial, by show F (k + 1) i = _; rw [h, hs]; rfl, ?_⟩
      rw [hd']
      have : same (x :: r) (ys[i] :: ys.drop (i + 1)) = same r (ys.drop (i + 1)) := by
        rw [Bool.eq_iff_iff, Qax, Qax, List.cons.injEq]
        exact ⟨fun h => h.2, fun h' => ⟨Qax.1 hs, h'⟩⟩
      rw [this]
    · refine .inl ?_
      show F (k + 1) i = _
      rw [h, Bool.eq_false_iff.2 hs, hd']
      have : same (x :: r) (ys[i] :: ys.drop (i + 1)) = false := Qc0 fun e => hs (Qax.2 (List.cons.inj e).1)
      rw [this]; rfl) xs.length 0 () (by omega) trivial
  simpa using this

/-- A loop that fills a row with what is made of each. -/
theorem Qcq {α β : Type} (xs : List α) (f : α -> β) (F : Nat -> Nat -> List β -> Option (List β × Unit)) (hend : ∀ k out, out.length = xs.length -> F (k + 1) xs.length out = some (out, ()))
    (hstep : ∀ k i x r out, xs.drop i = x :: r -> i < xs.length -> out.length = xs.length -> F (k + 1) i out = F k (i + 1) (out.set i (f x))) (out : List β) (ho : out.length = xs.length) : F (xs.length + 1) 0 out = some (xs.map f, ()) := by
  have := Qaq (σ := List β) xs F (fun l i out => (out.take i ++ l.map f, ())) (fun i out => out.length = xs.length) (fun k s hs => by
    rw [hend k s hs, <- hs]; simp) (fun k i x r s hd hi hs => by
    refine .inr ⟨s.set i (f x), by simpa using hs, hstep k i x r s hd hi hs, ?_⟩
    have e : (s.set i (f x)).take (i + 1) = s.take i ++ [f x] := by
      rw [List.take_add_one, List.getElem?_set_self (by omega), List.take_set_of_le (Nat.le_refl _)]
      rfl
    rw [e]; simp) xs.length 0 out (by omega) ho
  simpa using this

/-- A loop that puts what is made of each behind all. -/
theorem Qls {α β : Type} (xs : List α) (f : α -> β) (F : Nat -> Nat -> List β -> Option (List β × Unit)) (hend : ∀ k out, F (k + 1) xs.length out = some (out, ()))
    (hstep : ∀ k i x r out, xs.drop i = x :: r -> i < xs.length -> out.length = i -> F (k + 1) i out = F k (i + 1) (out ++ [f x])) : F (xs.length + 1) 0 [] = some (xs.map f, ()) := by
  have := Qaq (σ := List β) xs F (fun l i out => (out ++ l.map f, ())) (fun i out => out.length = i) (fun k s hs => by
    rw [hend k s]; simp) (fun k i x r s hd hi hs => .inr ⟨s ++ [f x], by simp [hs], hstep k i x r s hd hi hs, by simp⟩) xs.length 0 [] (by omega) rfl
  simpa using this

/-- A loop that finds the first one. -/
def idxOf {α : Type} (p : α -> Bool) : List α -> Nat -> Int
  | [], _ => -1
  | x :: r, i => bif p x then (i : Int) else idxOf p r (i + 1)
theorem Qbg {α : Type} (xs : List α) (p : α -> Bool) (F : Nat -> Nat -> Option (Int × Unit)) (hend : ∀ k, F (k + 1) xs.length = some (-1, ()))
    (hstep : ∀ k i x r, xs.drop i = x :: r -> i < xs.length -> F (k + 1) i = bif p x then some ((i : Int), ()) else F k (i + 1)) : F (xs.length + 1) 0 = some (idxOf p xs 0, ()) := by
  have := Qaq (σ := Unit) xs (fun k i _ => F k i) (fun l i _ => (idxOf p l i, ())) (fun _ _ => True) (fun k s _ => hend k) (fun k i x r s hd hi _ => by
    have h := hstep k i x r hd hi
    cases hp : p x
    · exact .inr ⟨(), trivial, by show F (k + 1) i = _; rw [h, hp]; rfl, by simp [idxOf, hp]⟩
    · exact .inl (by show F (k + 1) i = _; rw [h, hp]; simp [idxOf, hp])) xs.length 0 () (by omega) trivial
  simpa using this

/-- A loop that says whether all are so. -/
theorem Qlt {α : Type} (xs : List α) (p : α -> Bool) (z : Bool) (F : Nat -> Nat -> Option (Bool × Unit)) (hend : ∀ k, F (k + 1) xs.length = some (z, ()))
    (hstep : ∀ k i x r, xs.drop i = x :: r -> i < xs.length -> F (k + 1) i = bif p x then F k (i + 1) else some (false, ())) : F (xs.length + 1) 0 = some (xs.all p && z, ()) := by
  have := Qaq (σ := Unit) xs (fun k i _ => F k i) (fun l i _ => (l.all p && z, ())) (fun _ _ => True) (fun k s _ => by rw [hend k]; simp) (fun k i x r s hd hi _ => by
    have h := hstep k i x r hd hi
    cases hp : p x
    · exact .inl (by show F (k + 1) i = _; rw [h, hp]; simp [hp])
    · exact .inr ⟨(), trivial, by show F (k + 1) i = _; rw [h, hp]; rfl, by simp [hp]⟩) xs.length 0 () (by omega) trivial
  simpa using this

/-- The number of what comes ahead of a place. -/
def prev (xs : List MAsk) (i : Nat) : Option Int := if i = 0 then none else (xs[i - 1]?).map (·.1)
theorem Qkb (xs : List MAsk) : prev xs 0 = none := rfl
theorem Qpj {xs r : List MAsk} {x : MAsk} {i : Nat} (h : xs.drop i = x :: r) : prev xs (i + 1) = some x.1 := by
  have h1 : xs[i]? = some x := by
    have := congrArg List.head? h
    rwa [List.head?_drop] at this
  unfold prev
  rw [if_neg (by omega), Nat.add_sub_cancel, h1]; rfl

/-- The loop over asks: 'z': what comes behind it. -/
theorem Qkc (xs : List MAsk) (hx : xs.length <= 4294967296) (z : Bool) (F : Nat -> Nat -> Option (Bool × Unit)) (hend : ∀ k, F (k + 1) xs.length = some (z, ()))
    (hstep : ∀ k i x r, xs.drop i = x :: r -> i < xs.length -> F (k + 1) i = bif (askOk x && rises (prev xs i) x.1) then F k (i + 1) else some (false, ())) :
    F (xs.length + 1) 0 = some (asksOk none xs && z, ()) := by
  have := Qaq (σ := Unit) xs (fun k i _ => F k i) (fun l i _ => (asksOk (prev xs i) l && z, ())) (fun _ _ => True) (fun k s _ => by rw [hend k]; simp [asksOk]) (fun k i x r s hd hi _ => by
    have h := hstep k i x r hd hi
    cases hp : (askOk x && rises (prev xs i) x.1)
    · refine .inl ?_
      show F (k + 1) i = _
      rw [h, hp]
      simp only [cond_false, asksOk, <- Bool.and_assoc]
      rw [hp]; rfl
    · refine .inr ⟨(), trivial, by show F (k + 1) i = _; rw [h, hp]; rfl, ?_⟩
      simp only [asksOk, Qpj hd]
      rw [<- Bool.and_assoc (askOk x), hp]; rfl) xs.length 0 () (by omega) trivial
  simpa [Qkb] using this

/-- One round of it. -/
theorem Qkd {xs r : List MAsk} {x : MAsk} {i : Nat} (hx : xs.length <= 4294967296) (hd : xs.drop i = x :: r) (hi : i < xs.length) (Z : Option (Bool × Unit)) (rd : Int -> MAsk) (hrd : ∀ j : Nat, j < xs.length -> some (rd j) = xs[j]?) :
    (bif (bif askOk (rd (i : Int)) then false else true) then (some (false, ())) else (bif (decide ((0 : Int) < (i : Int))) then (bif (bif (decide ((0 : Int) <= (w64 ((i : Int) - (1 : Int))))) then (decide ((w64 ((i : Int) - (1 : Int))) < ((List.length xs : Int)))) else false) then (bif (decide ((rd (i : Int)).1 <= (rd (w64 ((i : Int) - (1 : Int)))).1)) then (some (false, ())) else Z) else none) else Z)) =
    bif (askOk x && rises (prev xs i) x.1) then Z else some (false, ()) := by
  have h1 : xs[i]? = some x := by
    have := congrArg List.head? hd
    rwa [List.head?_drop] at this
  have e1 : rd (i : Int) = x := by have := hrd i hi; rw [h1] at this; exact Option.some.inj this
  rw [e1]
  cases ha : askOk x
  · rfl
  · by_cases h0 : i = 0
    · subst h0; rw [Qkb]; rfl
    · have e2 : w64 ((i : Int) - (1 : Int)) = ((i - 1 : Nat) : Int) := by rw [Qae (by omega) (by omega)]; omega
      rw [e2, Qac (show i - 1 < xs.length by omega), decide_eq_true (show (0 : Int) < (i : Int) by omega)]
      have e3 : prev xs i = some (rd ((i - 1 : Nat) : Int)).1 := by
        unfold prev
        rw [if_neg h0, <- hrd (i - 1) (by omega)]; rfl
      rw [e3]
      simp only [cond_true, cond_false, Bool.true_and, rises]
      by_cases hlt : (rd ((i - 1 : Nat) : Int)).1 < x.1
      · rw [decide_eq_true hlt, decide_eq_false (by omega)]; rfl
      · rw [decide_eq_false hlt, decide_eq_true (by omega)]; rfl

theorem Qg4 {S : Sh} {xs : List S.den} (j : Nat) (hj : j < xs.length) : some (rdL (e := S) xs (j : Int)) = xs[j]? := by
  rw [Qrr hj, List.getElem?_eq_getElem hj]
end Go.Vm

set_option linter.unusedVariables false
set_option linter.unusedSimpArgs false
namespace Go.Vm

/-! ### Sizes -/
def szAsk (l : List MAsk) (left : Int) : Int := if left < (l.length : Int) then -1 else left - (l.length : Int)
def szGo {α : Type} (f : α -> Int -> Int) : List α -> Int -> Int
  | [], l => l
  | x :: r, l => if f x l < 0 then -1 else szGo f r (f x l)
def szList {α : Type} (f : α -> Int -> Int) (xs : List α) (left : Int) : Int := if left < (xs.length : Int) then -1 else szGo f xs (left - (xs.length : Int))
def szSpc (s : MSpc) (left : Int) : Int := szAsk s.1 left
/-- What is left is no more than there was. -/
def Dec1 {α : Type} (f : α -> Int -> Int) : Prop := ∀ x l, 0 <= l -> f x l <= l

theorem Qlu (l : List MAsk) (left : Int) (h : 0 <= left) : szAsk l left <= left := by unfold szAsk; split <;> omega
theorem Qmj {l : List MAsk} {left : Int} (h : left <= 1048576) (h2 : 0 <= szAsk l left) : l.length <= 1048576 := by
  unfold szAsk at h2; split at h2
  · omega
  · omega
theorem Qm2 {α : Type} {f : α -> Int -> Int} (hf : Dec1 f) : ∀ {xs : List α} {l : Int}, 0 <= l -> szGo f xs l <= l
  | [], l, h => Int.le_refl _
  | x :: r, l, h => by
    unfold szGo
    split
    · omega
    · exact Int.le_trans (Qm2 hf (by omega)) (hf x l h)
theorem Qlv {α : Type} {f : α -> Int -> Int} (hf : Dec1 f) {P : α -> Prop} (hP : ∀ x l, l <= 1048576 -> 0 <= f x l -> P x) : ∀ {xs : List α} {l : Int}, 0 <= l -> l <= 1048576 -> 0 <= szGo f xs l -> ∀ x ∈ xs, P x
  | [], l, h, h1, h2, x, hx => by cases hx
  | y :: r, l, h, h1, h2, x, hx => by
    unfold szGo at h2
    split at h2
    · omega
    · rcases List.mem_cons.1 hx with rfl | hx
      · exact hP _ l h1 (by omega)
      · exact Qlv hf hP (by omega) (Int.le_trans (hf y l h) h1) h2 x hx
theorem Qcr {α : Type} {f : α -> Int -> Int} (hf : Dec1 f) {xs : List α} {l : Int} (h : 0 <= l) : szList f xs l <= l := by
  unfold szList
  split
  · omega
  · exact Int.le_trans (Qm2 hf (by omega)) (by omega)
theorem Qfy {α : Type} {f : α -> Int -> Int} (hf : Dec1 f) {P : α -> Prop} (hP : ∀ x l, l <= 1048576 -> 0 <= f x l -> P x) {xs : List α} {l : Int} (h1 : l <= 1048576) (h2 : 0 <= szList f xs l) : xs.length <= 1048576 /\ ∀ x ∈ xs, P x := by
  unfold szList at h2
  split at h2
  · omega
  · exact ⟨by omega, Qlv hf hP (by omega) (by omega) h2⟩

theorem Qjp {α : Type} (xs : List α) (f : α -> Int -> Int) (hf : Dec1 f) (F : Nat -> Nat -> Int -> Option (Int × Unit)) (hend : ∀ k l, F (k + 1) xs.length l = some (l, ()))
    (hstep : ∀ k i x r l, xs.drop i = x :: r -> i < xs.length -> 0 <= l -> l <= 1048576 -> F (k + 1) i l = bif decide (f x l < 0) then some (-1, ()) else F k (i + 1) (f x l)) (l : Int) (h0 : 0 <= l) (h1 : l <= 1048576) : F (xs.length + 1) 0 l = some (szGo f xs l, ()) := by
  have := Qaq (σ := Int) xs F (fun r i l => (szGo f r l, ())) (fun i l => 0 <= l /\ l <= 1048576) (fun k s _ => hend k s) (fun k i x r s hd hi hs => by
    have h := hstep k i x r s hd hi hs.1 hs.2
    by_cases hp : f x s < 0
    · exact .inl (by rw [h, decide_eq_true hp]; simp [szGo, hp])
    · exact .inr ⟨f x s, ⟨by omega, Int.le_trans (hf x s hs.1) hs.2⟩, by rw [h, decide_eq_false hp]; rfl, by simp [szGo, hp]⟩) xs.length 0 l (by omega) ⟨h0, h1⟩
  simpa using this

theorem p_sz0 {n : Nat} {l : Int} {X : Option (Int × Unit)} {z : Int} (hn : n <= 9223372036854775807) (h0 : 0 <= l) (h1 : l <= 1048576) (hX : (n : Int) <= l -> X = some (z, ())) :
    (bif (decide ((w64 (l - (n : Int))) < (0 : Int))) then (some ((-1 : Int), ())) else X) = some (if l < (n : Int) then -1 else z, ()) := by
  rw [Qae (by omega) (by omega)]
  by_cases h : l < n
  · rw [if_pos h, decide_eq_true (by omega)]; rfl
  · rw [if_neg h, decide_eq_false (by omega)]; exact hX (by omega)

/-! ### Specifications -/
def force : List MSpc -> Int
  | [] => 0
  | s :: r => (if s.2 = 2 then 1 else 0) + force r
theorem Qcs : ∀ (l : List MSpc), 0 <= force l
  | [] => Int.le_refl _
  | s :: r => by unfold force; have := Qcs r; split <;> omega
def spcOk1 (s : MSpc) : Bool := testsOk s.1 && inq s.2 1 3
def spcsOk (l : List MSpc) : Bool := decide (l.length <= 6) && (l.all spcOk1 && decide (force l <= 1))
/-- How long lists may be. -/
def smA (l : List MAsk) : Bool := decide (l.length <= 4294967296)
def smS (l : List MSpc) : Bool := decide (l.length <= 4294967296) && l.all (fun s => smA s.1)
theorem Qbc {l : List MSpc} : smS l = true ↔ l.length <= 4294967296 /\ ∀ s ∈ l, s.1.length <= 4294967296 := by
  unfold smS smA; simp

theorem Qke (xs : List MSpc) (hx : xs.length <= 4294967296) (z : Int -> Bool) (F : Nat -> Nat -> Int -> Option (Bool × Unit)) (hend : ∀ k c, F (k + 1) xs.length c = some (z c, ()))
    (hstep : ∀ (k i : Nat) (x : MSpc) (r : List MSpc) (c : Int), xs.drop i = x :: r -> i < xs.length -> 0 <= c -> c <= (i : Int) -> F (k + 1) i c = bif spcOk1 x then (bif decide (x.2 = (2 : Int)) then F k (i + 1) (c + 1) else F k (i + 1) c) else some (false, ())) :
    F (xs.length + 1) 0 0 = some (xs.all spcOk1 && z (force xs), ()) := by
  have := Qaq (σ := Int) xs F (fun l i c => (l.all spcOk1 && z (c + force l), ())) (fun i c => 0 <= c /\ c <= (i : Int)) (fun k c _ => by rw [hend k]; simp [force]) (fun k i x r c hd hi hc => by
    have h := hstep k i x r c hd hi hc.1 hc.2
    cases hp : spcOk1 x
    · exact .inl (by rw [h, hp]; simp [hp])
    · refine .inr ?_
      by_cases h2 : x.2 = 2
      · refine ⟨c + 1, ⟨by omega, by omega⟩, by rw [h, hp, decide_eq_true h2]; rfl, ?_⟩
        simp only [List.all_cons, hp, Bool.true_and, force, if_pos h2, Int.add_assoc]
      · refine ⟨c, ⟨by omega, by omega⟩, by rw [h, hp, decide_eq_false h2]; rfl, ?_⟩
        simp only [List.all_cons, hp, Bool.true_and, force, if_neg h2, Int.zero_add]) xs.length 0 0 (by omega) ⟨by omega, by omega⟩
  simpa using this
theorem Qas {α : Type} {xs r : List α} {x : α} {i : Nat} (h : xs.drop i = x :: r) : x ∈ xs := List.mem_of_mem_drop (h ▸ List.mem_cons_self)
end Go.Vm

set_option linter.unusedVariables false
set_option linter.unusedSimpArgs false
namespace Go.Vm

theorem Qbl {α : Type} (p : α -> Bool) : ∀ (l : List α) (i : Nat), decide ((0 : Int) <= idxOf p l i) = l.any p
  | [], i => rfl
  | x :: r, i => by
    unfold idxOf
    cases hp : p x
    · simp only [cond_false, List.any_cons, hp, Bool.false_or]; exact Qbl p r (i + 1)
    · simp [hp]
theorem Qbs {α : Type} (p : α -> Bool) (l : List α) : (!(l.any fun x => !p x)) = l.all p := by
  induction l with
  | nil => rfl
  | cons x r ih => simp only [List.any_cons, List.all_cons, <- ih]; cases p x <;> simp

def need (c : Int) : Int := if c = 1 then 1 else if c = 2 then 2 else 0
theorem Qm3 (c : Int) : need c <= 2 := by unfold need; split <;> (try split) <;> omega
def sum3 : List MDec -> Int
  | [] => 0
  | d :: r => (atR d 3).1 + sum3 r
theorem Qgq {d : MDec} (h : decOk d = true) : -9999000 <= (atR d 3).1 /\ (atR d 3).1 <= 9999000 := by
  obtain ⟨⟨h1, h2⟩, h3, h4⟩ := Qgp.1 h
  unfold atR
  rw [if_pos h2]
  show -9999000 <= d.1 * pw (3 - d.2) /\ d.1 * pw (3 - d.2) <= 9999000
  have : d.2 = 0 ∨ d.2 = 1 ∨ d.2 = 2 ∨ d.2 = 3 := by omega
  have p0 : pw 0 = 1 := rfl
  have p1 : pw 1 = 10 := rfl
  have p2 : pw 2 = 100 := rfl
  have p3 : pw 3 = 1000 := rfl
  rcases this with e | e | e | e <;> rw [e] at h3 h4 ⊢ <;> simp only [p0, p1, p2, p3, show (3 - 0 : Int) = 3 by omega, show (3 - 1 : Int) = 2 by omega, show (3 - 2 : Int) = 1 by omega, show (3 - 3 : Int) = 0 by omega] at h3 h4 ⊢ <;> omega
def decMean (l : List MDec) (p : Int) : MDec := bif inq l.length 1 100 && (l.all decOk && inq p 0 3) then (near (sum3 l) ((l.length : Int) * pw (3 - p)), p) else (0, 0)
def tell (t : MTst) : MDec := if t.2.2.2.1 = 1 then decAt (t.2.2.2.2.getD 0 (0, 0)) t.1.2.2.2 else if t.2.2.2.1 = 2 then decMean (t.2.2.1 :: t.2.2.2.2) t.1.2.2.2 else decAt t.2.2.1 t.1.2.2.2
def passes (t : MTst) : Bool := t.2.2.2.2.all (spcIn t.1) && spcIn t.1 (tell t)
def stateOf (t : MTst) : Int := if t.2.2.2.1 = 0 then (if spcIn t.1 t.2.2.1 = true then 3 else 1) else if t.2.2.2.1 = 3 then 4 else if (t.2.2.2.2.length : Int) < need t.2.2.2.1 then 2 else if passes t = true then 3 else 4
def tstOkA (t : MTst) : Bool := askOk t.1 && (decOk t.2.2.1 && (t.2.2.2.2.all decOk && (inq t.2.2.2.1 0 3 && decide ((t.2.2.2.2.length : Int) <= need t.2.2.2.1))))
noncomputable def tstOkB (t : MTst) : Bool := bif decide (t.2.1 = 0) then (same t.2.2.1 (0, 0) && decide (t.2.2.2.1 = 0)) else (decide (t.2.1 = stateOf t) && (decide (t.2.2.2.1 = 0) || !spcIn t.1 t.2.2.1))
noncomputable def tstOk (t : MTst) : Bool := tstOkA t && tstOkB t
/-- What the telling needs. -/
def tsPre (t : MTst) : Bool := askOk t.1 && (decOk t.2.2.1 && (t.2.2.2.2.all decOk && decide (t.2.2.2.2.length <= 2)))
def tlPre (t : MTst) : Bool := tsPre t && (!decide (t.2.2.2.1 = 1) || !t.2.2.2.2.isEmpty)
theorem Qb6 {t : MTst} : tsPre t = true ↔ askOk t.1 = true /\ decOk t.2.2.1 = true /\ t.2.2.2.2.all decOk = true /\ t.2.2.2.2.length <= 2 := by
  unfold tsPre; simp only [Bool.and_eq_true, decide_eq_true_eq]
theorem Qfz {t : MTst} (h : tstOkA t = true) : tsPre t = true := by
  unfold tstOkA at h
  simp only [Bool.and_eq_true, decide_eq_true_eq] at h
  have := Qm3 t.2.2.2.1
  exact Qb6.2 ⟨h.1, h.2.1, h.2.2.1, by have := h.2.2.2.2; omega⟩

/-- The mean, as the two ways of telling it have it. -/
theorem Qnx {s b c : Int} (hb : 0 < b) (hc : 0 < c) : near (s * c) (b * c) = near s b := by
  have key : ∀ m : Int, (2 * (m * c) + b * c) / (2 * (b * c)) = (2 * m + b) / (2 * b) := fun m => by
    have e1 : 2 * (m * c) + b * c = (2 * m + b) * c := by rw [Int.add_mul, Int.mul_assoc]
    have e2 : 2 * (b * c) = (2 * b) * c := by rw [Int.mul_assoc]
    rw [e1, e2, Int.mul_ediv_mul_of_pos_left _ _ hc]
  unfold near
  by_cases h : s < 0
  · have : s * c < 0 := Int.mul_neg_of_neg_of_pos h hc
    rw [if_pos this, if_pos h, <- Int.neg_mul, key]
  · have : ¬ s * c < 0 := by have := Int.mul_nonneg (show 0 <= s by omega) (show 0 <= c by omega); omega
    rw [if_neg this, if_neg h, key]

theorem Qpk {l : List MDec} {p : Int} (h1 : inq l.length 1 100 = true) (h2 : inq p 0 3 = true) : near (sum3 l * pw p) ((l.length : Int) * pw 3) = near (sum3 l) ((l.length : Int) * pw (3 - p)) := by
  obtain ⟨h3, h4⟩ := Qah.1 h1
  obtain ⟨h5, h6⟩ := Qah.1 h2
  have e : pw 3 = pw (3 - p) * pw p := by
    have : p = 0 ∨ p = 1 ∨ p = 2 ∨ p = 3 := by omega
    rcases this with rfl | rfl | rfl | rfl <;> rfl
  rw [e, <- Int.mul_assoc]
  exact Qnx (Int.mul_pos (by omega) (Qe1 _)) (Qe1 _)

theorem Qlw (xs : List MDec) (hx : xs.length <= 100) (z : Int -> MDec) (F : Nat -> Nat -> Int -> Option (MDec × Unit)) (hend : ∀ k c, -999900000 <= c -> c <= 999900000 -> F (k + 1) xs.length c = some (z c, ()))
    (hstep : ∀ (k i : Nat) (x : MDec) (r : List MDec) (c : Int), xs.drop i = x :: r -> i < xs.length -> -999900000 <= c -> c <= 999900000 -> F (k + 1) i c = bif decOk x then F k (i + 1) (c + (atR x 3).1) else some ((0, 0), ())) :
    F (xs.length + 1) 0 0 = some (bif xs.all decOk then z (sum3 xs) else (0, 0), ()) := by
  have := Qaq (σ := Int) xs F (fun l i c => (bif l.all decOk then z (c + sum3 l) else (0, 0), ())) (fun i c => -9999000 * (i : Int) <= c /\ c <= 9999000 * (i : Int) /\ i <= 100) (fun k c hc => by rw [hend k c (by omega) (by omega)]; simp [sum3]) (fun k i x r c hd hi hc => by
    have h := hstep k i x r c hd hi (by omega) (by omega)
    cases hp : decOk x
    · exact .inl (by rw [h, hp]; simp [hp])
    · refine .inr ⟨c + (atR x 3).1, ?_, by rw [h, hp]; rfl, ?_⟩
      · have := Qgq hp; omega
      · simp only [List.all_cons, hp, Bool.true_and, sum3, Int.add_assoc]) xs.length 0 0 (by omega) ⟨by omega, by omega, by omega⟩
  simpa using this
end Go.Vm


set_option linter.unusedVariables false
set_option linter.unusedSimpArgs false
namespace Go.Vm
abbrev MRd : Type := List Int × Int
/-- A reader that may go on for so many steps. -/
def RdOk (c : Nat) (r : MRd) : Prop := (r.1.length <= 2000 /\ ∀ b ∈ r.1, 0 <= b /\ b <= 255) /\ 0 <= r.2 /\ r.2 + c <= 1000000
instance (c : Nat) (r : MRd) : Decidable (RdOk c r) := by unfold RdOk; infer_instance
theorem RdOk.mono {c d : Nat} {r : MRd} (h : RdOk c r) (hd : d <= c) : RdOk d r := ⟨h.1, h.2.1, by have := h.2.2; omega⟩
/-- A reader went on, at most so many steps. -/
def Step (c : Nat) (r r' : MRd) : Prop := r'.1 = r.1 /\ r.2 <= r'.2 /\ r'.2 <= r.2 + c
theorem Step.mono {c d : Nat} {r s : MRd} (h : Step c r s) (hd : c <= d) : Step d r s := ⟨h.1, h.2.1, by have := h.2.2; omega⟩
theorem Step.trans {c d : Nat} {r s t : MRd} (h : Step c r s) (h2 : Step d s t) : Step (c + d) r t := ⟨h2.1.trans h.1, Int.le_trans h.2.1 h2.2.1, by have := h.2.2; have := h2.2.2; omega⟩
theorem Step.ok {N c d : Nat} {r s : MRd} (h : Step c r s) (h0 : RdOk N r) (hc : c + d <= N) : RdOk d s :=
  ⟨by rw [h.1]; exact h0.1, Int.le_trans h0.2.1 h.2.1, by have := h.2.2; have := h0.2.2; omega⟩

end Go.Vm

set_option linter.unusedVariables false
set_option linter.unusedSimpArgs false
namespace Go.Vm

theorem places {p : Int} (h : 0 <= p /\ p <= 3) : p = 0 ∨ p = 1 ∨ p = 2 ∨ p = 3 := by omega
theorem Qpl (a : MAsk) : tstOk (a, 0, (0, 0), 0, []) = askOk a := by
  have h1 : tstOkA (a, 0, (0, 0), 0, []) = askOk a := by
    show (askOk a && true) = _
    rw [Bool.and_true]
  have h2 : tstOkB (a, 0, (0, 0), 0, []) = true := by
    show (same ((0, 0) : MDec) (0, 0) && true) = true
    rw [Qaw]; rfl
  unfold tstOk
  rw [h1, h2, Bool.and_true]
/-! ### Asks in order -/
theorem Qgr {α : Type} (p : α -> Bool) : ∀ (l : List α) (k : Nat), idxOf p l k = -1 ∨ ((k : Int) <= idxOf p l k /\ idxOf p l k < ((k + l.length : Nat) : Int))
  | [], k => .inl rfl
  | x :: r, k => by
    unfold idxOf
    cases p x
    · show idxOf p r (k + 1) = -1 ∨ ((k : Int) <= idxOf p r (k + 1) /\ idxOf p r (k + 1) < _)
      rcases Qgr p r (k + 1) with h | ⟨h1, h2⟩
      · exact .inl h
      · refine .inr ⟨by omega, ?_⟩
        rw [List.length_cons]; omega
    · show (k : Int) = -1 ∨ ((k : Int) <= (k : Int) /\ (k : Int) < _)
      refine .inr ⟨Int.le_refl _, ?_⟩
      rw [List.length_cons]; omega
theorem Qff {α : Type} (p : α -> Bool) (l : List α) : idxOf p l 0 = -1 ∨ (0 <= idxOf p l 0 /\ idxOf p l 0 < l.length) := by
  have := Qgr p l 0
  simpa using this
end Go.Vm

set_option linter.unusedVariables false
set_option linter.unusedSimpArgs false
namespace Go.Vm
def spcAdd (l : List MSpc) (t : List MAsk) : List MSpc × Bool := bif spcsOk l && (testsOk t && !decide (l.length = 6)) then (l ++ [(t, 1)], true) else (l, false)
/-- What is in force is retired. -/
def retire (s : MSpc) : MSpc := bif decide (s.2 = 2) then (s.1, 3) else s
def spcRaise (l : List MSpc) (k : Int) : List MSpc × Bool := bif spcsOk l && (inq k 0 ((l.length : Int) - 1) && decide ((l.getD k.toNat ([], 0)).2 = 1)) then ((l.map retire).set k.toNat ((l.getD k.toNat ([], 0)).1, 2), true) else (l, false)
def spcNow (l : List MSpc) : Int := idxOf (fun s : MSpc => decide (s.2 = 2)) l 0
/-- A loop that sets each. -/
theorem Qql {α β : Type} (xs : List α) (f : α -> α) (Z : List α -> Option β) (F : Nat -> Nat -> List α -> Option β) (hend : ∀ k out, out.length = xs.length -> F (k + 1) xs.length out = Z out)
    (hstep : ∀ k i x r out, out.drop i = x :: r -> i < xs.length -> out.length = xs.length -> F (k + 1) i out = F k (i + 1) (out.set i (f x))) : F (xs.length + 1) 0 xs = Z (xs.map f) := by
  have go : ∀ (m i : Nat) (out : List α), i + m = xs.length -> out = (xs.take i).map f ++ xs.drop i -> F (m + 1) i out = Z (xs.map f) := by
    intro m
    induction m with
    | zero =>
      intro i out h ho
      have : i = xs.length := by omega
      subst this
      rw [List.take_length, List.drop_length, List.append_nil] at ho
      subst ho
      exact hend 0 _ (List.length_map _)
    | succ m ih =>
      intro i out h ho
      have hi : i < xs.length := by omega
      have hl : out.length = xs.length := by rw [ho, List.length_append, List.length_map, List.length_take, List.length_drop]; omega
      have hti : ((xs.take i).map f).length = i := by rw [List.length_map, List.length_take]; omega
      have hd : out.drop i = xs[i] :: xs.drop (i + 1) := by
        rw [ho, List.drop_append_of_le_length (by omega), List.drop_of_length_le (by omega), List.nil_append]
        exact List.drop_eq_getElem_cons hi
      rw [hstep (m + 1) i _ _ out hd hi hl]
      refine ih (i + 1) _ (by omega) ?_
      rw [ho, List.set_append_right _ _ (by omega), hti, Nat.sub_self, List.drop_eq_getElem_cons hi, List.set_cons_zero, List.take_succ_eq_append_getElem hi, List.map_append]
      simp
  exact go xs.length 0 xs (by omega) (by simp)

theorem Qe2 {α : Type} {l : List α} {i : Nat} {x : α} (h : l[i]? = some x) : l.set i x = l := by
  apply List.ext_getElem?
  intro j
  rw [List.getElem?_set]
  split
  · rename_i e; subst e
    have : i < l.length := by
      rcases Nat.lt_or_ge i l.length with h' | h'
      · exact h'
      · rw [List.getElem?_eq_none h'] at h; cases h
    rw [if_pos this, h]
  · rfl

theorem Qdq (s : MSpc) : (retire s).1 = s.1 := by unfold retire; cases decide (s.2 = 2) <;> rfl
theorem Qhk (l : List MSpc) (k : Nat) : ((l.map retire).getD k ([], 0)).1 = (l.getD k ([], 0)).1 := by
  rw [List.getD_eq_getElem?_getD, List.getD_eq_getElem?_getD, List.getElem?_map]
  cases l[k]? with
  | none => rfl
  | some s => exact Qdq s
/-- With one in force at most: to retire the first is to retire all. -/
theorem Qhl : ∀ (l : List MSpc), force l = 0 -> l.map retire = l
  | [], _ => rfl
  | s :: r, h => by
    unfold force at h
    have := Qcs r
    have h2 : ¬ s.2 = 2 := by intro e; rw [if_pos e] at h; omega
    rw [if_neg h2, Int.zero_add] at h
    rw [List.map_cons, Qhl r h]
    unfold retire
    rw [decide_eq_false h2]; rfl
theorem Qkf {α : Type} (p : α -> Bool) : ∀ (l : List α) (k : Nat), idxOf p l (k + 1) = if idxOf p l k < 0 then -1 else idxOf p l k + 1
  | [], k => rfl
  | x :: r, k => by
    unfold idxOf
    cases p x
    · exact Qkf p r (k + 1)
    · show ((k + 1 : Nat) : Int) = if (k : Int) < 0 then -1 else (k : Int) + 1
      rw [if_neg (by omega)]; omega
theorem Qgs : ∀ (l : List MSpc), force l <= 1 -> l.map retire = if spcNow l < 0 then l else l.set (spcNow l).toNat ((l.getD (spcNow l).toNat ([], 0)).1, 3)
  | [], _ => rfl
  | s :: r, h => by
    unfold force at h
    by_cases h2 : s.2 = 2
    · rw [if_pos h2] at h
      have h0 : force r = 0 := by have := Qcs r; omega
      have e : spcNow (s :: r) = 0 := by unfold spcNow idxOf; rw [decide_eq_true h2]; rfl
      rw [e, List.map_cons, Qhl r h0]
      unfold retire
      rw [decide_eq_true h2]; rfl
    · rw [if_neg h2, Int.zero_add] at h
      have e : spcNow (s :: r) = if spcNow r < 0 then -1 else spcNow r + 1 := by
        unfold spcNow
        show (bif decide (s.2 = 2) then ((0 : Nat) : Int) else idxOf _ r (0 + 1)) = _
        rw [decide_eq_false h2]
        exact Qkf _ r 0
      rw [List.map_cons, Qgs r h, e]
      have hr : retire s = s := by unfold retire; rw [decide_eq_false h2]; rfl
      rw [hr]
      by_cases hn : spcNow r < 0
      · rw [if_pos hn, if_pos hn, if_pos (by decide)]
      · rw [if_neg hn, if_neg hn, if_neg (by omega)]
        have : (spcNow r + 1).toNat = (spcNow r).toNat + 1 := by omega
        rw [this]; rfl
theorem Qgt : ∀ (l m : List MSpc), force (l ++ m) = force l + force m
  | [], m => by show force m = 0 + force m; omega
  | s :: r, m => by
    show (if s.2 = 2 then 1 else 0) + force (r ++ m) = ((if s.2 = 2 then 1 else 0) + force r) + force m
    rw [Qgt r m]; omega
theorem Qb7 {l : List MSpc} : spcsOk l = true ↔ l.length <= 6 /\ (∀ s ∈ l, spcOk1 s = true) /\ force l <= 1 := by
  unfold spcsOk; simp only [Bool.and_eq_true, decide_eq_true_eq, List.all_eq_true]
theorem Qny {l : List MSpc} {t : List MAsk} (hs : spcsOk l = true) (ht : testsOk t = true) (h : l.length <= 5) : spcsOk (l ++ [(t, 1)]) = true := by
  obtain ⟨h1, h2, h3⟩ := Qb7.1 hs
  refine Qb7.2 ⟨by rw [List.length_append]; show l.length + 1 <= 6; omega, fun s hm => ?_, ?_⟩
  · rcases List.mem_append.1 hm with h4 | h4
    · exact h2 s h4
    · have : s = (t, 1) := by simpa using h4
      subst this
      show (testsOk t && inq 1 1 3) = true
      rw [ht]; rfl
  · rw [Qgt, show force [((t, 1) : MSpc)] = 0 from rfl]; omega
/-! ### What was raised -/
theorem Qkg (s : MSpc) : ¬ (retire s).2 = 2 := by
  unfold retire
  cases h : decide (s.2 = 2)
  · exact of_decide_eq_false h
  · show ¬ (3 : Int) = 2
    decide
theorem Qf9 : ∀ (l : List MSpc), force (l.map retire) = 0
  | [] => rfl
  | s :: r => by
    show (if (retire s).2 = 2 then 1 else 0) + force (r.map retire) = 0
    rw [if_neg (Qkg s), Qf9 r]; rfl
theorem Qhm : ∀ (l : List MSpc) (n k : Nat) (t : List MAsk), n < l.length -> idxOf (fun s : MSpc => decide (s.2 = 2)) ((l.map retire).set n (t, 2)) k = ((k + n : Nat) : Int)
  | [], _, _, _, h => by cases h
  | s :: r, 0, k, t, _ => by
    show (bif decide ((2 : Int) = 2) then (k : Int) else _) = _
    rfl
  | s :: r, n + 1, k, t, h => by
    show (bif decide ((retire s).2 = 2) then (k : Int) else idxOf _ ((r.map retire).set n (t, 2)) (k + 1)) = _
    rw [decide_eq_false (Qkg s), cond_false, Qhm r n (k + 1) t (by simpa using h)]
    congr 1; omega
theorem Qkh : ∀ (m : List MSpc) (n : Nat) (t : List MAsk), force m = 0 -> n < m.length -> force (m.set n (t, 2)) = 1
  | [], _, _, _, h => by cases h
  | s :: r, 0, t, h, _ => by
    unfold force at h
    have := Qcs r
    show (if (2 : Int) = 2 then 1 else 0) + force r = 1
    rw [if_pos rfl]
    split at h <;> omega
  | s :: r, n + 1, t, h, hn => by
    unfold force at h
    have := Qcs r
    have h1 : force r = 0 := by split at h <;> omega
    show (if s.2 = 2 then 1 else 0) + force (r.set n (t, 2)) = 1
    rw [Qkh r n t h1 (by simpa using hn)]
    split at h <;> omega
theorem Qpm {s : MSpc} (h : spcOk1 s = true) : spcOk1 (retire s) = true := by
  unfold spcOk1 at h ⊢
  rw [Qdq]
  unfold retire
  cases h2 : decide (s.2 = 2)
  · exact h
  · rw [Bool.and_eq_true] at h
    show (testsOk s.1 && inq 3 1 3) = true
    rw [h.1]; rfl
theorem Qqm {l : List MSpc} {n : Int} (h : (spcsOk l && (inq n 0 ((l.length : Int) - 1) && decide ((l.getD n.toNat ([], 0)).2 = 1))) = true) :
    let x := (l.map retire).set n.toNat ((l.getD n.toNat ([], 0)).1, 2)
    0 <= n /\ n < l.length /\ (l.getD n.toNat ([], 0)).2 = 1 /\ x.length = l.length /\ spcsOk x = true /\ spcNow x = n /\ spcRaise x n = (x, false)
      /\ (∀ i, (h : i < l.length) -> ∃ s, x[i]? = some s /\ s.1 = l[i].1 /\ ((i : Int) ≠ n -> s.2 ≠ l[i].2 -> l[i].2 = 2 /\ s.2 = 3)) := by
  intro x
  simp only [Bool.and_eq_true, decide_eq_true_eq] at h
  obtain ⟨h1, h2, h3⟩ := h
  obtain ⟨h4, h5⟩ := Qah.1 h2
  have hn : n.toNat < l.length := by omega
  have hx : x.length = l.length := by show (List.set _ _ _).length = _; rw [List.length_set, List.length_map]
  obtain ⟨g1, g2, g3⟩ := Qb7.1 h1
  have hg : (l.getD n.toNat ([], 0)) ∈ l := by
    rw [List.getD_eq_getElem?_getD, List.getElem?_eq_getElem hn]; exact List.getElem_mem hn
  have hxn : x.getD n.toNat ([], 0) = ((l.getD n.toNat ([], 0)).1, 2) := by
    show (List.set _ _ _).getD _ _ = _
    rw [List.getD_eq_getElem?_getD, List.getElem?_set_self (by rw [List.length_map]; exact hn)]; rfl
  refine ⟨h4, by omega, h3, hx, ?_, ?_, ?_, fun i hi => ?_⟩
  · refine Qb7.2 ⟨by rw [hx]; exact g1, fun s hs => ?_, by rw [Qkh _ _ _ (Qf9 l) (by rw [List.length_map]; exact hn)]; decide⟩
    rcases List.mem_or_eq_of_mem_set hs with h6 | rfl
    · obtain ⟨y, hy, rfl⟩ := List.mem_map.1 h6
      exact Qpm (g2 y hy)
    · have h7 := g2 _ hg
      unfold spcOk1 at h7
      rw [Bool.and_eq_true] at h7
      show (testsOk (l.getD n.toNat ([], 0)).1 && inq 2 1 3) = true
      rw [h7.1]; rfl
  · show idxOf _ (List.set _ _ _) 0 = n
    rw [Qhm l n.toNat 0 _ hn]; omega
  · unfold spcRaise
    rw [hxn]
    show (bif _ && (_ && decide ((2 : Int) = 1)) then _ else _) = _
    rw [show decide ((2 : Int) = 1) = false from rfl, Bool.and_false, Bool.and_false]; rfl
  · by_cases he : i = n.toNat
    · subst he
      refine ⟨_, List.getElem?_set_self (by rw [List.length_map]; exact hn), ?_, fun h => absurd (by omega) h⟩
      show (l.getD n.toNat ([], 0)).1 = _
      rw [List.getD_eq_getElem?_getD, List.getElem?_eq_getElem hn]; rfl
    · refine ⟨retire l[i], by show (List.set _ _ _)[i]? = _; rw [List.getElem?_set_ne (by omega), List.getElem?_map, List.getElem?_eq_getElem hi]; rfl, Qdq _, fun _ hne => ?_⟩
      unfold retire at hne ⊢
      cases h6 : decide (l[i].2 = 2)
      · rw [h6] at hne; exact absurd rfl hne
      · exact ⟨of_decide_eq_true h6, rfl⟩
/-! ### Short lists of specifications -/
/-- At most so many, each short. -/
def SpI (i : Nat) (l : List MSpc) : Prop := l.length <= i /\ ∀ s ∈ l, s.1.length <= 5
def SpQ (l : List MSpc) : Prop := SpI 4 l
theorem SpI.nil : SpI 0 [] := ⟨Nat.le_refl _, fun _ h => by cases h⟩
theorem SpI.mono {i : Nat} {l : List MSpc} (h : SpI i l) : SpI (i + 1) l := ⟨by have := h.1; omega, h.2⟩
theorem SpI.q {i : Nat} {l : List MSpc} (h : SpI i l) (hi : i <= 4) : SpQ l := ⟨by have := h.1; omega, h.2⟩
theorem SpI.sm {i : Nat} {l : List MSpc} (h : SpI i l) (hi : i <= 4294967296) : smS l = true := Qbc.2 ⟨by have := h.1; omega, fun s hs => by have := h.2 s hs; omega⟩
theorem SpQ.sm {l : List MSpc} (h : SpQ l) : smS l = true := SpI.sm h (by decide)
theorem SpI.set {i : Nat} {l : List MSpc} (h : SpI i l) (k : Nat) (s : MSpc) (hs : s.1.length <= 5) : SpI i (l.set k s) := ⟨by rw [List.length_set]; exact h.1, fun y hy => by
  rcases List.mem_or_eq_of_mem_set hy with h1 | rfl
  · exact h.2 y h1
  · exact hs⟩
theorem SpI.getD {i : Nat} {l : List MSpc} (h : SpI i l) (k : Nat) : (l.getD k ([], 0)).1.length <= 5 := by
  rw [List.getD_eq_getElem?_getD]
  cases hk : l[k]? with
  | none => exact Nat.zero_le _
  | some s => exact h.2 s (List.mem_of_getElem? hk)
theorem SpI.retire {i : Nat} {l : List MSpc} (h : SpI i l) : SpI i (l.map retire) := ⟨by rw [List.length_map]; exact h.1, fun y hy => by
  obtain ⟨s, hs, rfl⟩ := List.mem_map.1 hy
  rw [Qdq]; exact h.2 s hs⟩
end Go.Vm

set_option linter.unusedVariables false
set_option linter.unusedSimpArgs false
namespace Go.Vm
theorem Qcm {α β : Type} (y : α × β) (a : α) (b : β) : same y (a, b) = (same y.1 a && same y.2 b) := (Qao _ _ _ _).symm
/-- Each in turn. -/
def markL {α : Type} (mk : α -> Int -> α × Int) : List α -> Int -> List α × Int
  | [], k => ([], k)
  | x :: r, k => ((mk x k).1 :: (markL mk r (mk x k).2).1, (markL mk r (mk x k).2).2)
/-- Is it marked from a number on? -/
noncomputable def hdOf {α : Type} (mk : α -> Int -> α × Int) (x : α) (k : Int) : Int := bif same x (mk x k).1 then (mk x k).2 else -1
/-- What a mark of one is: it goes on by so much, and hangs on the form alone. -/
structure MkOk {α : Type} (mk : α -> Int -> α × Int) (sz : α -> Nat) : Prop where
  go : ∀ x k, (mk x k).2 = k + sz x
  idem : ∀ x k, mk (mk x k).1 k = mk x k
def szL {α : Type} (sz : α -> Nat) : List α -> Nat
  | [] => 0
  | x :: r => sz x + szL sz r
theorem Qbd {α : Type} {sz : α -> Nat} (h : ∀ x, 1 <= sz x) : ∀ l : List α, l.length <= szL sz l
  | [] => Nat.le_refl _
  | x :: r => by have h1 := Qbd h r; have h2 := h x; show r.length + 1 <= sz x + szL sz r; omega
theorem Qix {α : Type} {sz : α -> Nat} {c : Nat} : ∀ l : List α, (∀ x ∈ l, sz x <= c) -> szL sz l <= c * l.length
  | [], _ => Nat.zero_le _
  | x :: r, h => by
    have h1 := Qix r fun y hy => h y (List.mem_cons_of_mem _ hy)
    have h2 := h x List.mem_cons_self
    show sz x + szL sz r <= c * (r.length + 1)
    rw [Nat.mul_add]; omega
theorem Qbm {α : Type} {c : Nat} (l : List α) : szL (fun _ => c) l = c * l.length := by
  induction l with
  | nil => rfl
  | cons y r ih => show c + szL _ r = c * (r.length + 1); rw [ih, Nat.mul_add]; omega
theorem MkOk.list {α : Type} {mk : α -> Int -> α × Int} {sz : α -> Nat} (h : MkOk mk sz) : MkOk (markL mk) (szL sz) where
  go := fun l => by
    induction l with
    | nil => intro k; show k = k + ((0 : Nat) : Int); omega
    | cons x r ih =>
      intro k
      show (markL mk r (mk x k).2).2 = k + ((sz x + szL sz r : Nat) : Int)
      rw [ih, h.go]; omega
  idem := fun l => by
    induction l with
    | nil => intro k; rfl
    | cons x r ih =>
      intro k
      show ((mk (mk x k).1 k).1 :: (markL mk (markL mk r (mk x k).2).1 (mk (mk x k).1 k).2).1, (markL mk (markL mk r (mk x k).2).1 (mk (mk x k).1 k).2).2) = _
      rw [h.idem, ih]; rfl
theorem MkOk.held {α : Type} {mk : α -> Int -> α × Int} {sz : α -> Nat} (h : MkOk mk sz) (x : α) (k : Int) : hdOf mk (mk x k).1 k = (mk x k).2 := by
  unfold hdOf
  rw [h.idem, Qaw]; rfl
theorem MkOk.hd {α : Type} {mk : α -> Int -> α × Int} {sz : α -> Nat} (h : MkOk mk sz) {x : α} {k : Int} (hk : 0 <= k) : (hdOf mk x k < 0 /\ hdOf mk x k = -1 /\ same x (mk x k).1 = false) ∨ (0 <= hdOf mk x k /\ hdOf mk x k = k + sz x /\ same x (mk x k).1 = true) := by
  unfold hdOf
  cases same x (mk x k).1
  · exact .inl ⟨show (-1 : Int) < 0 by decide, rfl, rfl⟩
  · have := h.go x k
    exact .inr ⟨by show 0 <= (mk x k).2; omega, this, rfl⟩
/-- What a mark of a thing needs. -/
def mkPre {α : Type} (sz : α -> Nat) (x : α) (k : Int) : Bool := decide (0 <= k) && decide (k + sz x <= 4294967296)
theorem Qai {α : Type} {sz : α -> Nat} {x : α} {k : Int} : mkPre sz x k = true ↔ 0 <= k /\ k + sz x <= 4294967296 := by unfold mkPre; simp only [Bool.and_eq_true, decide_eq_true_eq]
/-- A loop that marks each. -/
theorem Qcd {α β : Type} {mk : α -> Int -> α × Int} {sz : α -> Nat} (hgo : ∀ x k, (mk x k).2 = k + sz x) (l : List α) (B : Int) (Z : Int -> List α -> Option β) (F : Nat -> Nat -> Int -> List α -> Option β)
    (hend : ∀ k c out, out.length = l.length -> F (k + 1) l.length c out = Z c out)
    (hstep : ∀ k i x r c out, out.drop i = x :: r -> i < l.length -> out.length = l.length -> 0 <= c -> c + sz x <= B -> F (k + 1) i c out = F k (i + 1) (mk x c).2 (out.set i (mk x c).1))
    (c : Int) (hc : 0 <= c) (hB : c + szL sz l <= B) : F (l.length + 1) 0 c l = Z (markL mk l c).2 (markL mk l c).1 := by
  have go : ∀ (m : Nat) (pre rest : List α) (c : Int), rest.length = m -> pre.length + m = l.length -> 0 <= c -> c + szL sz rest <= B -> F (m + 1) pre.length c (pre ++ rest) = Z (markL mk rest c).2 (pre ++ (markL mk rest c).1) := by
    intro m
    induction m with
    | zero =>
      intro pre rest c h1 h2 _ _
      have : rest = [] := List.eq_nil_of_length_eq_zero h1
      subst this
      have h3 : pre.length = l.length := by omega
      rw [h3]
      exact hend 0 c _ (by rw [List.append_nil]; exact h3)
    | succ m ih =>
      intro pre rest c h1 h2 h3 h4
      cases rest with
      | nil => cases h1
      | cons x r =>
        have h5 : (szL sz (x :: r) : Int) = sz x + szL sz r := by show ((sz x + szL sz r : Nat) : Int) = _; omega
        have hd : (pre ++ x :: r).drop pre.length = x :: r := by rw [List.drop_left]
        rw [hstep (m + 1) pre.length x r c _ hd (by omega) (by rw [List.length_append]; omega) h3 (by omega)]
        have hs : (pre ++ x :: r).set pre.length (mk x c).1 = (pre ++ [(mk x c).1]) ++ r := by
          rw [List.set_append_right _ _ (Nat.le_refl _), Nat.sub_self, List.set_cons_zero]; simp
        have hl : (pre ++ [(mk x c).1]).length = pre.length + 1 := by rw [List.length_append]; rfl
        have h6 := hgo x c
        rw [hs, <- hl, ih (pre ++ [(mk x c).1]) r (mk x c).2 (by simpa using h1) (by rw [hl]; omega) (by omega) (by omega)]
        show Z _ ((pre ++ [(mk x c).1]) ++ (markL mk r (mk x c).2).1) = Z _ (pre ++ ((mk x c).1 :: (markL mk r (mk x c).2).1))
        rw [List.append_assoc]; rfl
  exact go l.length [] l c rfl (by simp) hc hB
/-- A loop that looks whether each is marked. -/
theorem Qce {α : Type} {mk : α -> Int -> α × Int} {sz : α -> Nat} (h : MkOk mk sz) (l : List α) (B : Int) (F : Nat -> Nat -> Int -> Option (Int × Unit))
    (hend : ∀ k c, F (k + 1) l.length c = some (c, ()))
    (hstep : ∀ k i x r c, l.drop i = x :: r -> i < l.length -> 0 <= c -> c + sz x <= B -> F (k + 1) i c = bif same x (mk x c).1 then F k (i + 1) (mk x c).2 else some (-1, ()))
    (c : Int) (hc : 0 <= c) (hB : c + szL sz l <= B) : F (l.length + 1) 0 c = some (hdOf (markL mk) l c, ()) := by
  have e : ∀ (x : α) (r : List α) (c : Int), hdOf (markL mk) (x :: r) c = bif same x (mk x c).1 then hdOf (markL mk) r (mk x c).2 else -1 := by
    intro x r c
    unfold hdOf
    show (bif same (x :: r) ((mk x c).1 :: (markL mk r (mk x c).2).1) then (markL mk r (mk x c).2).2 else -1) = _
    have : same (x :: r) ((mk x c).1 :: (markL mk r (mk x c).2).1) = (same x (mk x c).1 && same r (markL mk r (mk x c).2).1) := by
      rw [Bool.eq_iff_iff, Bool.and_eq_true, Qax, Qax, Qax, List.cons.injEq]
    rw [this]
    cases same x (mk x c).1 <;> rfl
  have := Qaq (σ := Int) l F (fun r i c => (hdOf (markL mk) r c, ())) (fun i c => 0 <= c /\ c + szL sz (l.drop i) <= B) (fun k c hc => by
    rw [hend k c]
    show _ = some ((bif same ([] : List α) [] then c else -1), ())
    rw [Qaw]; rfl) (fun k i x r c hd hi hc => by
    rw [hd] at hc
    have hsz : ((szL sz (x :: r) : Nat) : Int) = sz x + szL sz r := by show ((sz x + szL sz r : Nat) : Int) = _; omega
    have h1 := hstep k i x r c hd hi hc.1 (by omega)
    cases hs : same x (mk x c).1
    · refine .inl ?_
      rw [h1, hs, e, hs]; rfl
    · have hg := h.go x c
      refine .inr ⟨(mk x c).2, ⟨by omega, ?_⟩, by rw [h1, hs]; rfl, by rw [e, hs]; rfl⟩
      have : l.drop (i + 1) = r := Qka hd
      rw [this]; omega) l.length 0 c (by omega) ⟨hc, by rw [List.drop_zero]; exact hB⟩
  simpa using this
/-! ### The marks of things -/
def mkInt (t : Int) (k : Int) : Int × Int := (k, k + 1)
def mkDec (t : MDec) (k : Int) : MDec × Int := ((k, k + 1), k + 1 + 1)
def mkAsk (t : MAsk) (k : Int) : MAsk × Int := ((k, (k + 1, k + 1 + 1), (k + 1 + 1 + 1, k + 1 + 1 + 1 + 1), k + 1 + 1 + 1 + 1 + 1), k + 1 + 1 + 1 + 1 + 1 + 1)
def mkSig (t : MSig) (k : Int) : MSig × Int := ((k, k + 1, k + 1 + 1), k + 1 + 1 + 1)
def mkBool (t : Bool) (k : Int) : Bool × Int := (decide (Int.tmod k 3 = 0), k + 1)
theorem Qc9 : MkOk mkInt (fun _ => 1) := ⟨fun _ _ => rfl, fun _ _ => rfl⟩
theorem Qdu : MkOk mkDec (fun _ => 2) := ⟨fun _ k => by show k + 1 + 1 = k + ((2 : Nat) : Int); omega, fun _ _ => rfl⟩
theorem Qct : MkOk mkAsk (fun _ => 6) := ⟨fun _ k => by show k + 1 + 1 + 1 + 1 + 1 + 1 = k + ((6 : Nat) : Int); omega, fun _ _ => rfl⟩
theorem Qdv : MkOk mkSig (fun _ => 3) := ⟨fun _ k => by show k + 1 + 1 + 1 = k + ((3 : Nat) : Int); omega, fun _ _ => rfl⟩
theorem Qdh : MkOk mkBool (fun _ => 1) := ⟨fun _ _ => rfl, fun _ _ => rfl⟩
/-- A specification: its tests, then its state. -/
def mkSpc (t : MSpc) (k : Int) : MSpc × Int := (((markL mkAsk t.1 k).1, (markL mkAsk t.1 k).2), (markL mkAsk t.1 k).2 + 1)
def szS (t : MSpc) : Nat := szL (fun _ => 6) t.1 + 1
theorem Qda : MkOk mkSpc szS where
  go := fun t k => by
    have := Qct.list.go t.1 k
    show (markL mkAsk t.1 k).2 + 1 = k + ((szL (fun _ => 6) t.1 + 1 : Nat) : Int)
    omega
  idem := fun t k => by
    unfold mkSpc
    simp only [Qct.list.idem]
theorem Qm4 (t : MSpc) : 1 <= szS t := Nat.le_add_left _ _
/-- A test, of a batch: its leaves, then what was done again. -/
def mkTst (t : MTst) (k : Int) : MTst × Int :=
  ((((k, (k + 1, k + 1 + 1), (k + 1 + 1 + 1, k + 1 + 1 + 1 + 1), k + 1 + 1 + 1 + 1 + 1), k + 1 + 1 + 1 + 1 + 1 + 1, (k + 1 + 1 + 1 + 1 + 1 + 1 + 1, k + 1 + 1 + 1 + 1 + 1 + 1 + 1 + 1), k + 1 + 1 + 1 + 1 + 1 + 1 + 1 + 1 + 1, (markL mkDec t.2.2.2.2 (k + 1 + 1 + 1 + 1 + 1 + 1 + 1 + 1 + 1 + 1)).1) : MTst), (markL mkDec t.2.2.2.2 (k + 1 + 1 + 1 + 1 + 1 + 1 + 1 + 1 + 1 + 1)).2)
def szT (t : MTst) : Nat := 10 + szL (fun _ => 2) t.2.2.2.2
theorem Qdw : MkOk mkTst szT where
  go := fun t k => by
    have := Qdu.list.go t.2.2.2.2 (k + 1 + 1 + 1 + 1 + 1 + 1 + 1 + 1 + 1 + 1)
    show (markL mkDec t.2.2.2.2 (k + 1 + 1 + 1 + 1 + 1 + 1 + 1 + 1 + 1 + 1)).2 = k + ((10 + szL (fun _ => 2) t.2.2.2.2 : Nat) : Int)
    omega
  idem := fun t k => by
    unfold mkTst
    simp only [Qdu.list.idem]
theorem Qm5 (t : MTst) : 1 <= szT t := by unfold szT; omega
/-- A batch. -/
def mkBat (b : MBat) (k : Int) : MBat × Int :=
  (((k, k + 1, (markL mkTst b.2.2.1 (k + 1 + 1)).1, (markL mkTst b.2.2.1 (k + 1 + 1)).2, (markL mkSig b.2.2.2.2.1 ((markL mkTst b.2.2.1 (k + 1 + 1)).2 + 1)).1,
    (markL mkBool b.2.2.2.2.2 (markL mkSig b.2.2.2.2.1 ((markL mkTst b.2.2.1 (k + 1 + 1)).2 + 1)).2).1) : MBat),
    (markL mkBool b.2.2.2.2.2 (markL mkSig b.2.2.2.2.1 ((markL mkTst b.2.2.1 (k + 1 + 1)).2 + 1)).2).2)
def szB (b : MBat) : Nat := 3 + szL szT b.2.2.1 + szL (fun _ => 3) b.2.2.2.2.1 + szL (fun _ => 1) b.2.2.2.2.2
theorem Qdb : MkOk mkBat szB where
  go := fun b k => by
    have h1 := Qdw.list.go b.2.2.1 (k + 1 + 1)
    have h2 := Qdv.list.go b.2.2.2.2.1 ((markL mkTst b.2.2.1 (k + 1 + 1)).2 + 1)
    have h3 := Qdh.list.go b.2.2.2.2.2 (markL mkSig b.2.2.2.2.1 ((markL mkTst b.2.2.1 (k + 1 + 1)).2 + 1)).2
    show (markL mkBool b.2.2.2.2.2 (markL mkSig b.2.2.2.2.1 ((markL mkTst b.2.2.1 (k + 1 + 1)).2 + 1)).2).2 = k + ((3 + szL szT b.2.2.1 + szL (fun _ => 3) b.2.2.2.2.1 + szL (fun _ => 1) b.2.2.2.2.2 : Nat) : Int)
    omega
  idem := fun b k => by
    unfold mkBat
    simp only [Qdw.list.idem, Qdv.list.idem, Qdh.list.idem]
theorem Qm6 (b : MBat) : 1 <= szB b := by unfold szB; omega
end Go.Vm

set_option linter.unusedVariables false
set_option linter.unusedSimpArgs false
namespace Go.Vm
def mkT (a : MAsk) (f : MDec) (c : Int) (m : List MDec) : MTst := (a, stateOf (a, 0, f, c, m), f, c, m)
noncomputable def tstPut (t : MTst) (v : MDec) : MTst × Bool := bif tstOk t && (decide (t.2.1 = 0) && decOk v) then (mkT t.1 v t.2.2.2.1 t.2.2.2.2, true) else (t, false)
noncomputable def tstCause (t : MTst) (c : Int) : MTst × Bool := bif tstOk t && (decide (t.2.1 = 1) && inq c 1 3) then (mkT t.1 t.2.2.1 c t.2.2.2.2, true) else (t, false)
noncomputable def tstMore (t : MTst) (v : MDec) : MTst × Bool := bif tstOk t && (decide (t.2.1 = 2) && decOk v) then (mkT t.1 t.2.2.1 t.2.2.2.1 (t.2.2.2.2 ++ [v]), true) else (t, false)
theorem Qk1 (t : MTst) : stateOf t = 1 ∨ stateOf t = 2 ∨ stateOf t = 3 ∨ stateOf t = 4 := by
  unfold stateOf
  split
  · split
    · exact .inr (.inr (.inl rfl))
    · exact .inl rfl
  · split
    · exact .inr (.inr (.inr rfl))
    · split
      · exact .inr (.inl rfl)
      · split
        · exact .inr (.inr (.inl rfl))
        · exact .inr (.inr (.inr rfl))
theorem Qc1 {t : MTst} : tstOkA t = true ↔ askOk t.1 = true /\ decOk t.2.2.1 = true /\ t.2.2.2.2.all decOk = true /\ inq t.2.2.2.1 0 3 = true /\ (t.2.2.2.2.length : Int) <= need t.2.2.2.1 := by
  unfold tstOkA; simp only [Bool.and_eq_true, decide_eq_true_eq]
theorem Qbt {t : MTst} : tstOk t = true ↔ tstOkA t = true /\ ((t.2.1 = 0 /\ t.2.2.1 = (0, 0) /\ t.2.2.2.1 = 0) ∨ (t.2.1 ≠ 0 /\ t.2.1 = stateOf t /\ (t.2.2.2.1 = 0 ∨ spcIn t.1 t.2.2.1 = false))) := by
  unfold tstOk tstOkB
  rw [Bool.and_eq_true]
  by_cases h : t.2.1 = 0
  · simp [h, Qax]
  · simp [h]
/-- What a test that is ok, and stands so, has. -/
theorem Qqn {t : MTst} (h : tstOk t = true) (h0 : t.2.1 = 0) : t.2.2.1 = (0, 0) /\ t.2.2.2.1 = 0 /\ t.2.2.2.2 = [] := by
  obtain ⟨hA, hB⟩ := Qbt.1 h
  obtain ⟨_, _, _, _, h5⟩ := Qc1.1 hA
  rcases hB with ⟨_, h2, h3⟩ | ⟨h1, _⟩
  · refine ⟨h2, h3, List.eq_nil_of_length_eq_zero ?_⟩
    rw [h3] at h5
    have : need 0 = 0 := rfl
    omega
  · exact absurd h0 h1
theorem Qlx {t : MTst} (h : tstOk t = true) (h0 : t.2.1 ≠ 0) : t.2.1 = stateOf t /\ (t.2.2.2.1 = 0 ∨ spcIn t.1 t.2.2.1 = false) := by
  rcases (Qbt.1 h).2 with ⟨h1, _⟩ | ⟨_, h2, h3⟩
  · exact absurd h1 h0
  · exact ⟨h2, h3⟩
theorem Qq9 {t : MTst} (h : tstOk t = true) (h0 : t.2.2.2.1 = 0) : t.2.2.2.2 = [] := by
  obtain ⟨_, _, _, _, h5⟩ := Qc1.1 (Qbt.1 h).1
  rw [h0] at h5
  have : need 0 = 0 := rfl
  exact List.eq_nil_of_length_eq_zero (by omega)
theorem Qpn {t : MTst} (h : stateOf t = 1) : t.2.2.2.1 = 0 /\ spcIn t.1 t.2.2.1 = false := by
  unfold stateOf at h
  split at h
  · rename_i hc
    split at h
    · cases h
    · rename_i hs
      exact ⟨hc, Bool.eq_false_iff.2 hs⟩
  · split at h
    · cases h
    · split at h
      · cases h
      · split at h <;> cases h
theorem Qmk {t : MTst} (h : stateOf t = 2) : t.2.2.2.1 ≠ 0 /\ t.2.2.2.1 ≠ 3 /\ (t.2.2.2.2.length : Int) < need t.2.2.2.1 := by
  unfold stateOf at h
  split at h
  · split at h <;> cases h
  · rename_i hc
    split at h
    · cases h
    · rename_i h3
      split at h
      · rename_i hl; exact ⟨hc, h3, hl⟩
      · split at h <;> cases h
theorem Qrs {t : MTst} (h : tstOk t = true) (h1 : t.2.1 = 1) : t.2.2.2.1 = 0 /\ spcIn t.1 t.2.2.1 = false /\ t.2.2.2.2 = [] := by
  have hs := Qlx h (by omega)
  obtain ⟨h2, h3⟩ := Qpn (hs.1.symm.trans h1)
  exact ⟨h2, h3, Qq9 h h2⟩
theorem Qqo {t : MTst} (h : tstOk t = true) (h1 : t.2.1 = 2) : t.2.2.2.1 ≠ 0 /\ t.2.2.2.1 ≠ 3 /\ (t.2.2.2.2.length : Int) < need t.2.2.2.1 /\ spcIn t.1 t.2.2.1 = false := by
  have hs := Qlx h (by omega)
  obtain ⟨h2, h3, h4⟩ := Qmk (hs.1.symm.trans h1)
  exact ⟨h2, h3, h4, hs.2.resolve_left h2⟩
theorem Qly {a : MAsk} {f : MDec} {c : Int} {m : List MDec} (h1 : askOk a = true) (h2 : decOk f = true) (h3 : m.all decOk = true) (h4 : inq c 0 3 = true) (h5 : (m.length : Int) <= need c) (h6 : c = 0 ∨ spcIn a f = false) : tstOk (mkT a f c m) = true := by
  refine Qbt.2 ⟨Qc1.2 ⟨h1, h2, h3, h4, h5⟩, .inr ⟨?_, rfl, h6⟩⟩
  show stateOf (a, 0, f, c, m) ≠ 0
  rcases Qk1 (a, 0, f, c, m) with h | h | h | h <;> rw [h] <;> decide
theorem Qlz {t : MTst} {v : MDec} (h : tstOk t = true) (h0 : t.2.1 = 0) (hv : decOk v = true) : tstOk (mkT t.1 v t.2.2.2.1 t.2.2.2.2) = true := by
  obtain ⟨g1, g2, g3, g4, g5⟩ := Qc1.1 (Qbt.1 h).1
  exact Qly g1 hv g3 g4 g5 (.inl (Qqn h h0).2.1)
theorem Qh6 {t : MTst} {c : Int} (h : tstOk t = true) (h1 : t.2.1 = 1) (hc : inq c 1 3 = true) : tstOk (mkT t.1 t.2.2.1 c t.2.2.2.2) = true := by
  obtain ⟨g1, g2, g3, g4, g5⟩ := Qc1.1 (Qbt.1 h).1
  obtain ⟨k1, k2, k3⟩ := Qrs h h1
  have hc := Qah.1 hc
  refine Qly g1 g2 g3 (Qah.2 ⟨by omega, hc.2⟩) ?_ (.inr k2)
  rw [k3]
  show (0 : Int) <= need c
  unfold need; split <;> (try split) <;> omega
theorem Qjq {t : MTst} {v : MDec} (h : tstOk t = true) (h2 : t.2.1 = 2) (hv : decOk v = true) : tstOk (mkT t.1 t.2.2.1 t.2.2.2.1 (t.2.2.2.2 ++ [v])) = true := by
  obtain ⟨g1, g2, g3, g4, g5⟩ := Qc1.1 (Qbt.1 h).1
  obtain ⟨k1, k2, k3, k4⟩ := Qqo h h2
  refine Qly g1 g2 ?_ g4 ?_ (.inr k4)
  · rw [List.all_append, g3]
    show (decOk v && true) = true
    rw [hv]; rfl
  · rw [List.length_append]; show ((t.2.2.2.2.length + 1 : Nat) : Int) <= _; omega
theorem Qen {a : MAsk} {s : Int} {f : MDec} {c : Int} {m : List MDec} (h : tstOk (mkT a f c m) = true) : tsPre (a, s, f, c, m) = true := by
  have := Qfz (Qbt.1 h).1
  exact this
/-! ### The turning, in short -/
theorem Qnz {t : MTst} {v : MDec} : (tstPut t v).2 = true ↔ tstOk t = true /\ t.2.1 = 0 /\ decOk v = true := by
  unfold tstPut
  cases h : (tstOk t && (decide (t.2.1 = 0) && decOk v))
  · simp only [cond_false]; constructor
    · intro e; cases e
    · intro e; simp [e.1, e.2.1, e.2.2] at h
  · simp only [Bool.and_eq_true, decide_eq_true_eq] at h; simp [h.1, h.2.1, h.2.2]
theorem Ql0 {t : MTst} {c : Int} : (tstCause t c).2 = true ↔ tstOk t = true /\ t.2.1 = 1 /\ inq c 1 3 = true := by
  unfold tstCause
  cases h : (tstOk t && (decide (t.2.1 = 1) && inq c 1 3))
  · simp only [cond_false]; constructor
    · intro e; cases e
    · intro e; simp [e.1, e.2.1, e.2.2] at h
  · simp only [Bool.and_eq_true, decide_eq_true_eq] at h; simp [h.1, h.2.1, h.2.2]
theorem Qml {t : MTst} {v : MDec} : (tstMore t v).2 = true ↔ tstOk t = true /\ t.2.1 = 2 /\ decOk v = true := by
  unfold tstMore
  cases h : (tstOk t && (decide (t.2.1 = 2) && decOk v))
  · simp only [cond_false]; constructor
    · intro e; cases e
    · intro e; simp [e.1, e.2.1, e.2.2] at h
  · simp only [Bool.and_eq_true, decide_eq_true_eq] at h; simp [h.1, h.2.1, h.2.2]
theorem Qki {t : MTst} {v : MDec} (h : (tstPut t v).2 = false) : (tstPut t v).1 = t := by
  unfold tstPut at h ⊢
  cases hc : (tstOk t && (decide (t.2.1 = 0) && decOk v))
  · rfl
  · rw [hc] at h; cases h
theorem Qhn {t : MTst} {c : Int} (h : (tstCause t c).2 = false) : (tstCause t c).1 = t := by
  unfold tstCause at h ⊢
  cases hc : (tstOk t && (decide (t.2.1 = 1) && inq c 1 3))
  · rfl
  · rw [hc] at h; cases h
theorem Qiy {t : MTst} {v : MDec} (h : (tstMore t v).2 = false) : (tstMore t v).1 = t := by
  unfold tstMore at h ⊢
  cases hc : (tstOk t && (decide (t.2.1 = 2) && decOk v))
  · rfl
  · rw [hc] at h; cases h
theorem Qiz {t : MTst} {v : MDec} (h : (tstPut t v).2 = true) : (tstPut t v).1 = mkT t.1 v t.2.2.2.1 t.2.2.2.2 /\ tstOk (tstPut t v).1 = true := by
  obtain ⟨h1, h2, h3⟩ := Qnz.1 h
  have e : (tstPut t v).1 = mkT t.1 v t.2.2.2.1 t.2.2.2.2 := by unfold tstPut; rw [h1, decide_eq_true h2, h3]; rfl
  exact ⟨e, by rw [e]; exact Qlz h1 h2 h3⟩
theorem Qgu {t : MTst} {c : Int} (h : (tstCause t c).2 = true) : (tstCause t c).1 = mkT t.1 t.2.2.1 c t.2.2.2.2 /\ tstOk (tstCause t c).1 = true := by
  obtain ⟨h1, h2, h3⟩ := Ql0.1 h
  have e : (tstCause t c).1 = mkT t.1 t.2.2.1 c t.2.2.2.2 := by unfold tstCause; rw [h1, decide_eq_true h2, h3]; rfl
  exact ⟨e, by rw [e]; exact Qh6 h1 h2 h3⟩
theorem Qho {t : MTst} {v : MDec} (h : (tstMore t v).2 = true) : (tstMore t v).1 = mkT t.1 t.2.2.1 t.2.2.2.1 (t.2.2.2.2 ++ [v]) /\ tstOk (tstMore t v).1 = true := by
  obtain ⟨h1, h2, h3⟩ := Qml.1 h
  have e : (tstMore t v).1 = mkT t.1 t.2.2.1 t.2.2.2.1 (t.2.2.2.2 ++ [v]) := by unfold tstMore; rw [h1, decide_eq_true h2, h3]; rfl
  exact ⟨e, by rw [e]; exact Qjq h1 h2 h3⟩
end Go.Vm

set_option linter.unusedVariables false
set_option linter.unusedSimpArgs false
namespace Go.Vm
def mix (m n : Int) : Int := Int.tmod (m * 8191 + Int.tmod n 999983 + 999983 + 7) 999983
def mkR (m : Int) : Prop := 0 <= m /\ m < 999983
theorem Qkj {m n : Int} (h : mkR m) : (0 <= m * 8191 /\ m * 8191 <= 8190860753) /\ (-999983 < Int.tmod n 999983 /\ Int.tmod n 999983 < 999983) := by
  have h1 := h.1
  have h2 := h.2
  refine ⟨⟨by omega, by omega⟩, ?_, ?_⟩
  · have := Int.tmod_lt_of_pos (-n) (show (0 : Int) < 999983 by decide)
    rw [Int.neg_tmod] at this
    omega
  · exact Int.tmod_lt_of_pos n (by decide)
theorem mix_r {m n : Int} (h : mkR m) : mkR (mix m n) := by
  obtain ⟨h1, h2⟩ := Qkj (n := n) h
  unfold mix
  exact ⟨Int.tmod_nonneg _ (by omega), Int.tmod_lt_of_pos _ (by decide)⟩
def markMore : Int -> List MDec -> Int
  | m, [] => m
  | m, v :: r => markMore (mix (mix m v.1) v.2) r
def markHead (m : Int) (t : MTst) : Int := mix (mix (mix (mix m t.2.1) t.2.2.1.1) t.2.2.1.2) t.2.2.2.1
def markTst (m : Int) (t : MTst) : Int := markMore (markHead m t) t.2.2.2.2
def markTsts : Int -> List MTst -> Int
  | m, [] => m
  | m, t :: r => markTsts (markTst m t) r
def markDev (m : Int) (i : Nat) (d : Bool) : Int := bif d then mix (mix m ((i + 1 : Nat) : Int)) 77 else mix m ((i + 1 : Nat) : Int)
def markDevs : Nat -> Int -> List Bool -> Int
  | _, m, [] => m
  | i, m, d :: r => markDevs (i + 1) (markDev m i d) r
def batMark (b : MBat) : Int := markDevs 0 (markTsts (mix 1 b.1) b.2.2.1) b.2.2.2.2.2
theorem Qi0 : ∀ {l : List MDec} {m : Int}, mkR m -> mkR (markMore m l)
  | [], m, h => h
  | v :: r, m, h => Qi0 (l := r) (mix_r (mix_r h))
theorem Qf0 {m : Int} {t : MTst} (h : mkR m) : mkR (markHead m t) := mix_r (mix_r (mix_r (mix_r h)))
theorem Qgv {m : Int} {t : MTst} (h : mkR m) : mkR (markTst m t) := Qi0 (Qf0 h)
theorem Qi1 : ∀ {l : List MTst} {m : Int}, mkR m -> mkR (markTsts m l)
  | [], m, h => h
  | t :: r, m, h => Qi1 (l := r) (Qgv h)
theorem Qgw {m : Int} {i : Nat} {d : Bool} (h : mkR m) : mkR (markDev m i d) := by
  unfold markDev
  cases d
  · exact mix_r h
  · exact mix_r (mix_r h)
theorem Qi2 : ∀ {l : List Bool} {i : Nat} {m : Int}, mkR m -> mkR (markDevs i m l)
  | [], i, m, h => h
  | d :: r, i, m, h => Qi2 (l := r) (Qgw h)
theorem one_r : mkR 1 := ⟨by decide, by decide⟩
theorem Qpo (b : MBat) : mkR (batMark b) := Qi2 (Qi1 (mix_r one_r))

/-- The first who has signed in a role what is now, but for one. -/
def signedBy (mk role but : Int) : List MSig -> Int
  | [] => 0
  | s :: r => bif decide (s.2.1 = role) && (decide (s.2.2 = mk) && !decide (s.1 = but)) then s.1 else signedBy mk role but r
def batSigned (b : MBat) (role but : Int) : Int := signedBy (batMark b) role but b.2.2.2.2.1
def signs (r : Int) : Bool := decide (r = 2) || decide (r = 3)
def sigOk (s : MSig) : Bool := inq s.1 1 5 && (signs s.2.1 && inq s.2.2 0 999982)
def hand1 (b : MBat) (s : MSig) : Bool := decide (s.2.1 = 2) && (decide (s.2.2 = batMark b) && decide (0 < batSigned b 3 s.1))
def hands (b : MBat) : Bool := b.2.2.2.2.1.any (hand1 b)
def passed (t : MTst) : Bool := decide (t.2.1 = 3)
def shutAll (b : MBat) : Bool := b.2.2.1.all passed && b.2.2.2.2.2.all (!·)
def gate (b : MBat) : Bool := shutAll b && hands b
/-- All are ok, their numbers rise. -/
def riseL {α : Type} (ok : α -> Bool) (key : α -> Int) : Option Int -> List α -> Bool
  | _, [] => true
  | p, t :: r => ok t && (rises p (key t) && riseL ok key (some (key t)) r)
noncomputable def tstsOk (p : Option Int) (l : List MTst) : Bool := riseL tstOk (fun t => t.1.1) p l
noncomputable def batOkA (b : MBat) : Bool := inq b.1 0 5 && (inq b.2.1 1 10000 && (inq b.2.2.1.length 1 4 && (inq b.2.2.2.1 1 4 && (tstsOk none b.2.2.1 && (decide (b.2.2.2.2.1.length <= 6) && (b.2.2.2.2.1.all sigOk && decide (b.2.2.2.2.2.length <= 3)))))))
/-- Free, or was. -/
def freed (s : Int) : Bool := decide (s = 2) || decide (s = 4)
noncomputable def batOk (b : MBat) : Bool := batOkA b && (!freed b.2.2.2.1 || gate b)
def newT (a : MAsk) : MTst := (a, 0, (0, 0), 0, [])
def batNone : MBat := (0, 0, [], 0, [], [])
def batNew (k : Int) (l : List MAsk) (n : Int) : MBat := bif inq k 0 5 && (testsOk l && inq n 1 10000) then (k, n, l.map newT, 1, [], []) else batNone
noncomputable def isOpen (b : MBat) : Bool := batOk b && decide (b.2.2.2.1 = 1)
noncomputable def batSign (b : MBat) (u r : Int) : MBat × Bool := bif isOpen b && (inq u 1 5 && (signs r && !decide (b.2.2.2.2.1.length = 6))) then ((b.1, b.2.1, b.2.2.1, b.2.2.2.1, b.2.2.2.2.1 ++ [(u, r, batMark b)], b.2.2.2.2.2), true) else (b, false)
noncomputable def batMove (b : MBat) (s : Int) : MBat × Bool := bif batOk b && ((decide (b.2.2.2.1 = 1) && (decide (s = 3) || (decide (s = 2) && gate b))) || (decide (b.2.2.2.1 = 2) && decide (s = 4))) then ((b.1, b.2.1, b.2.2.1, s, b.2.2.2.2.1, b.2.2.2.2.2), true) else (b, false)
noncomputable def batDev (b : MBat) (k : Int) (o : Bool) : MBat × Bool :=
  bif isOpen b && (bif o then decide (k = b.2.2.2.2.2.length) && decide (k < 3) else inq k 0 ((b.2.2.2.2.2.length : Int) - 1) && b.2.2.2.2.2.getD k.toNat false)
  then ((b.1, b.2.1, b.2.2.1, b.2.2.2.1, b.2.2.2.2.1, bif o then b.2.2.2.2.2 ++ [true] else b.2.2.2.2.2.set k.toNat false), true) else (b, false)
noncomputable def tstTurn (t : MTst) (w : Int) (v : MDec) (c : Int) : MTst × Bool := if w = 1 then tstPut t v else if w = 2 then tstCause t c else if w = 3 then tstMore t v else (t, false)
def findT (l : List MTst) (n : Int) : Int := idxOf (fun t : MTst => decide (t.1.1 = n)) l 0
def t0 : MTst := ((0, (0, 0), (0, 0), 0), 0, (0, 0), 0, [])
noncomputable def batTest (b : MBat) (n w : Int) (v : MDec) (c : Int) : MBat × Bool :=
  bif isOpen b && !decide (findT b.2.2.1 n < 0) then
    ((b.1, b.2.1, b.2.2.1.set (findT b.2.2.1 n).toNat (tstTurn (b.2.2.1.getD (findT b.2.2.1 n).toNat t0) w v c).1, b.2.2.2.1, b.2.2.2.2.1, b.2.2.2.2.2), (tstTurn (b.2.2.1.getD (findT b.2.2.1 n).toNat t0) w v c).2)
  else (b, false)
end Go.Vm

set_option linter.unusedVariables false
set_option linter.unusedSimpArgs false
namespace Go.Vm
/-! ### Requests -/
def hasB (k : Int) : Bool := inq k 4 12
def hasN (k : Int) : Bool := decide (k = 2) || (decide (k = 3) || (decide (k = 5) || decide (k = 8)))
def hasV (k : Int) : Bool := decide (k = 4) || decide (k = 6)
def hasT (k : Int) : Bool := inq k 4 6
noncomputable def reqOk (r : MReq) : Bool :=
  inq r.2.1 1 12 && (inq r.1 1 5 && ((decide (r.2.2.1 = 0) || (hasB r.2.1 && inq r.2.2.1 0 9)) && ((decide (r.2.2.2.2.1 = 0) || (hasN r.2.1 && inq r.2.2.2.2.1 0 10000)) &&
    ((same r.2.2.2.2.2.1 (0, 0) || (hasV r.2.1 && decOk r.2.2.2.2.2.1)) && ((bif hasT r.2.1 then inq r.2.2.2.1 1 4 else decide (r.2.2.2.1 = 0)) && (bif decide (r.2.1 = 1) then testsOk r.2.2.2.2.2.2 else decide (r.2.2.2.2.2.2.length = 0)))))))
/-- May a role make a request of a kind? -/
def reqMay (o k : Int) : Bool :=
  if k = 1 then decide (o = 4) else if k = 2 then decide (o = 4) else if k = 3 then decide (o = 1) || decide (o = 2) else if k = 4 then decide (o = 1) || decide (o = 2) else if k = 5 then decide (o = 2) || decide (o = 3)
  else if k = 6 then decide (o = 1) || decide (o = 2) else if k = 7 then decide (o = 1) || decide (o = 2) else if k = 8 then decide (o = 2) || decide (o = 3) else if k = 9 then decide (o = 2) || decide (o = 3)
  else if k = 10 then decide (o = 3) else if k = 11 then decide (o = 3) else if k = 12 then decide (o = 3) else false
/-! ### Houses -/
def rolesOk (l : List Int) : Bool := inq l.length 1 5 && l.all (inq · 1 4)
def sigIn (roles : List Int) (s : MSig) : Bool := decide (s.1 <= (roles.length : Int)) && decide (roles.getD (s.1 - 1).toNat 0 = s.2.1)
def spc0 : MSpc := ([], 0)
noncomputable def batIn (roles : List Int) (specs : List MSpc) (b : MBat) : Bool :=
  batOk b && (decide (b.1 < (specs.length : Int)) && (!decide ((specs.getD b.1.toNat spc0).2 = 1) && (same (b.2.2.1.map (·.1)) (specs.getD b.1.toNat spc0).1 && b.2.2.2.2.1.all (sigIn roles))))
noncomputable def houOk (h : MHou) : Bool := rolesOk h.1 && (spcsOk h.2.1 && (decide (h.2.2.length <= 4) && h.2.2.all (batIn h.1 h.2.1)))
noncomputable def batTurn (b : MBat) (r : MReq) (role : Int) : MBat × Bool :=
  if r.2.1 = 4 then batTest b r.2.2.2.1 1 r.2.2.2.2.2.1 0 else if r.2.1 = 5 then batTest b r.2.2.2.1 2 (0, 0) r.2.2.2.2.1 else if r.2.1 = 6 then batTest b r.2.2.2.1 3 r.2.2.2.2.2.1 0
  else if r.2.1 = 7 then batDev b b.2.2.2.2.2.length true else if r.2.1 = 8 then batDev b r.2.2.2.2.1 false else if r.2.1 = 9 then batSign b r.1 role
  else if r.2.1 = 10 then batMove b 2 else if r.2.1 = 11 then batMove b 3 else batMove b 4
def ans (ok : Bool) (no : Int) : Int := bif ok then 1 else no
def roleOf (h : MHou) (r : MReq) : Int := h.1.getD (r.1 - 1).toNat 0
def houMay (h : MHou) (r : MReq) : Bool := decide (r.1 <= (h.1.length : Int)) && reqMay (roleOf h r) r.2.1
noncomputable def houTake (h : MHou) (r : MReq) : MHou × Int :=
  if spcNow h.2.1 < 0 then (h, 4) else if h.2.2.length = 4 then (h, 6) else if r.2.2.2.2.1 = 0 then (h, 5) else
    ((h.1, h.2.1, h.2.2 ++ [batNew (spcNow h.2.1) (h.2.1.getD (spcNow h.2.1).toNat spc0).1 r.2.2.2.2.1]), 1)
noncomputable def houTurn (h : MHou) (r : MReq) : MHou × Int :=
  if (h.2.2.length : Int) <= r.2.2.1 then (h, 3) else
    ((h.1, h.2.1, h.2.2.set r.2.2.1.toNat (batTurn (h.2.2.getD r.2.2.1.toNat batNone) r (roleOf h r)).1), ans (batTurn (h.2.2.getD r.2.2.1.toNat batNone) r (roleOf h r)).2 5)
noncomputable def houGo (h : MHou) (r : MReq) : MHou × Int :=
  bif houMay h r then
    (if r.2.1 = 1 then ((h.1, (spcAdd h.2.1 r.2.2.2.2.2.2).1, h.2.2), ans (spcAdd h.2.1 r.2.2.2.2.2.2).2 6)
     else if r.2.1 = 2 then (if (h.2.1.length : Int) <= r.2.2.2.2.1 then (h, 4) else ((h.1, (spcRaise h.2.1 r.2.2.2.2.1).1, h.2.2), ans (spcRaise h.2.1 r.2.2.2.2.1).2 5))
     else if r.2.1 = 3 then houTake h r else houTurn h r)
  else (h, 2)
def hou0 : MHou := ([], [], [])
noncomputable def houDo (h : MHou) (r : MReq) : MHou × Int := bif houOk h && reqOk r then houGo h r else (hou0, 0)
end Go.Vm

set_option linter.unusedVariables false
set_option linter.unusedSimpArgs false
namespace Go.Vm
theorem MkOk.size {α : Type} {mk : α -> Int -> α × Int} {sz : α -> Nat} (h : MkOk mk sz) (x : α) (k : Int) : sz (mk x k).1 = sz x := by
  have h1 := h.go x k
  have h2 := h.go (mk x k).1 k
  rw [h.idem] at h2
  omega
theorem MkOk.pre {α : Type} {mk : α -> Int -> α × Int} {sz : α -> Nat} (h : MkOk mk sz) {x : α} {k : Int} (hp : mkPre sz x k = true) : mkPre sz (mk x k).1 k = true := by
  unfold mkPre at hp ⊢
  rw [h.size]; exact hp
theorem MkOk.pos {α : Type} {mk : α -> Int -> α × Int} {sz : α -> Nat} (h : MkOk mk sz) {x : α} {k : Int} (hp : 0 <= k) : decide ((mk x k).2 < 0) = false := by
  have := h.go x k
  exact decide_eq_false (by omega)
/-- Leaves and what is counted. -/
theorem Qkk {α : Type} {f : α -> Int -> Int} {sz : α -> Nat} (hf : Dec1 f) (h : ∀ x l, 0 <= l -> 0 <= f x l -> (sz x : Int) <= 10 + 10 * (l - f x l)) : ∀ {xs : List α} {l : Int}, 0 <= l -> 0 <= szGo f xs l -> (szL sz xs : Int) <= 10 * xs.length + 10 * (l - szGo f xs l)
  | [], l, h0, h1 => by show ((0 : Nat) : Int) <= 10 * ((0 : Nat) : Int) + 10 * (l - l); omega
  | x :: r, l, h0, h1 => by
    have e : szGo f (x :: r) l = if f x l < 0 then -1 else szGo f r (f x l) := rfl
    rw [e] at h1 ⊢
    by_cases hc : f x l < 0
    · rw [if_pos hc] at h1; omega
    · rw [if_neg hc] at h1 ⊢
      have h2 := Qkk hf h (xs := r) (l := f x l) (by omega) h1
      have h3 := h x l h0 (by omega)
      have e2 : ((szL sz (x :: r) : Nat) : Int) = sz x + szL sz r := by show ((sz x + szL sz r : Nat) : Int) = _; omega
      rw [e2, List.length_cons]
      omega
theorem Qfg {α : Type} {f : α -> Int -> Int} {sz : α -> Nat} (hf : Dec1 f) (h : ∀ x l, 0 <= l -> 0 <= f x l -> (sz x : Int) <= 10 + 10 * (l - f x l)) {xs : List α} {l : Int} (h0 : 0 <= l) (h1 : 0 <= szList f xs l) : (szL sz xs : Int) <= 10 * (l - szList f xs l) := by
  unfold szList at h1 ⊢
  by_cases hc : l < (xs.length : Int)
  · rw [if_pos hc] at h1; omega
  · rw [if_neg hc] at h1 ⊢
    have := Qkk hf h (xs := xs) (l := l - xs.length) (by omega) h1
    omega
theorem Qn0 {t : List MAsk} {l : Int} (h0 : 0 <= l) (h1 : 0 <= szAsk t l) : (szL (fun _ => 6) t : Int) <= 10 * (l - szAsk t l) := by
  rw [Qbm]
  unfold szAsk at h1 ⊢
  split at h1
  · omega
  · rename_i hc
    rw [if_neg hc]; omega
theorem Qn1 (t : MSpc) (l : Int) (h0 : 0 <= l) (h1 : 0 <= szSpc t l) : (szS t : Int) <= 10 + 10 * (l - szSpc t l) := by
  have := Qn0 (t := t.1) h0 h1
  show ((szL (fun _ => 6) t.1 + 1 : Nat) : Int) <= 10 + 10 * (l - szAsk t.1 l)
  omega
end Go.Vm

set_option linter.unusedVariables false
set_option linter.unusedSimpArgs false
namespace Go.Vm
theorem Qkl {t : MTst} (h : tstOk t = true) : t.2.2.2.2.length <= 2 := (Qb6.1 (Qfz (Qbt.1 h).1)).2.2.2
/-- A test is made again from its results. -/
noncomputable def again (t : MTst) : MTst := (if t.2.2.2.1 = 0 then (tstPut (newT t.1) t.2.2.1).1 else (tstCause (tstPut (newT t.1) t.2.2.1).1 t.2.2.2.1).1)
theorem Qn2 (a : MAsk) : tstOk (newT a) = askOk a := Qpl a
end Go.Vm

set_option linter.unusedVariables false
set_option linter.unusedSimpArgs false
namespace Go.Vm
/-- With some fuel it comes to something as told. -/
def WithFuel {β : Type} (F : Nat -> Option β) (P : β -> Prop) : Prop := ∃ k, Gets (F k) P
theorem WithFuel.eq {β : Type} {F : Nat -> Option β} {z : β} (h : WithFuel F (fun v => v = z)) : ∃ k, F k = some z := by obtain ⟨k, v, h1, rfl⟩ := h; exact ⟨k, h1⟩
theorem Qkm {β : Type} {F : Nat -> Option β} {z : β} (k : Nat) (h : F k = some z) : WithFuel F (fun v => v = z) := ⟨k, z, h, rfl⟩
/-- A loop over a list that folds it. -/
def foldI {α σ : Type} (g : Nat -> σ -> α -> σ) : Nat -> σ -> List α -> σ
  | _, s, [] => s
  | i, s, x :: r => foldI g (i + 1) (g i s x) r
theorem Qdi {α σ β : Type} (xs : List α) (g : Nat -> σ -> α -> σ) (Inv : σ -> Prop) (F : Nat -> Nat -> σ -> Option β) (P : β -> Prop) (hinv : ∀ i s x, Inv s -> Inv (g i s x))
    (s0 : σ) (h0 : Inv s0) (hend : Inv (foldI g 0 s0 xs) -> WithFuel (fun k => F k xs.length (foldI g 0 s0 xs)) P)
    (hstep : ∀ i x r s, xs.drop i = x :: r -> i < xs.length -> Inv s -> WithFuel (fun k => F k (i + 1) (g i s x)) P -> WithFuel (fun k => F k i s) P) : WithFuel (fun k => F k 0 s0) P := by
  have go : ∀ (m i : Nat) (s : σ), i + m = xs.length -> Inv s -> foldI g i s (xs.drop i) = foldI g 0 s0 xs -> WithFuel (fun k => F k i s) P := by
    intro m
    induction m with
    | zero =>
      intro i s h hs he
      have : i = xs.length := by omega
      subst this
      rw [List.drop_length] at he
      have he : s = foldI g 0 s0 xs := he
      subst he
      exact hend hs
    | succ m ih =>
      intro i s h hs he
      have hi : i < xs.length := by omega
      have hd := List.drop_eq_getElem_cons hi
      rw [hd] at he
      exact hstep i _ _ s hd hi hs (ih (i + 1) _ (by omega) (hinv _ _ _ hs) he)
  exact go xs.length 0 s0 (by omega) h0 rfl
/-- A loop that compares, and goes on behind it. -/
theorem Qqp {α : Type} (xs ys : List α) (hl : xs.length = ys.length) (b : Bool) (F : Nat -> Nat -> Option (Bool × Unit)) (hend : ∃ k, F k xs.length = some (b, ()))
    (hstep : ∀ k i x y r r', xs.drop i = x :: r -> ys.drop i = y :: r' -> i < xs.length -> i < ys.length -> F (k + 1) i = bif same x y then F k (i + 1) else some (false, ())) : ∃ k, F k 0 = some (same xs ys && b, ()) := by
  have go : ∀ (m i : Nat), i + m = xs.length -> ∃ k, F k i = some (same (xs.drop i) (ys.drop i) && b, ()) := by
    intro m
    induction m with
    | zero =>
      intro i h
      have : i = xs.length := by omega
      subst this
      rw [List.drop_length, hl, List.drop_length, Qaw, <- hl]
      exact hend
    | succ m ih =>
      intro i h
      have hi : i < xs.length := by omega
      have hi' : i < ys.length := by omega
      have hd := List.drop_eq_getElem_cons hi
      have hd' := List.drop_eq_getElem_cons hi'
      obtain ⟨k, hk⟩ := ih (i + 1) (by omega)
      refine ⟨k + 1, ?_⟩
      rw [hstep k i _ _ _ _ hd hd' hi hi', hd, hd', hk]
      have : same (xs[i] :: xs.drop (i + 1)) (ys[i] :: ys.drop (i + 1)) = (same xs[i] ys[i] && same (xs.drop (i + 1)) (ys.drop (i + 1))) := by
        rw [Bool.eq_iff_iff, Bool.and_eq_true, Qax, Qax, Qax, List.cons.injEq]
      rw [this]
      cases same xs[i] ys[i] <;> rfl
  simpa using go xs.length 0 (by omega)
/-- A loop that says whether all are so, and goes on behind it. -/
theorem Qdj {α : Type} (xs : List α) (p : α -> Bool) (b : Bool) (F : Nat -> Nat -> Option (Bool × Unit)) (hend : xs.all p = true -> ∃ k, F k xs.length = some (b, ()))
    (hstep : ∀ k i x r, xs.drop i = x :: r -> i < xs.length -> F (k + 1) i = bif p x then F k (i + 1) else some (false, ())) : ∃ k, F k 0 = some (xs.all p && b, ()) := by
  have go : ∀ (m i : Nat), i + m = xs.length -> (xs.take i).all p = true -> ∃ k, F k i = some ((xs.drop i).all p && b, ()) := by
    intro m
    induction m with
    | zero =>
      intro i h ha
      have : i = xs.length := by omega
      subst this
      rw [List.take_length] at ha
      rw [List.drop_length]
      exact hend ha
    | succ m ih =>
      intro i h ha
      have hi : i < xs.length := by omega
      have hd := List.drop_eq_getElem_cons hi
      cases hp : p xs[i]
      · refine ⟨1, ?_⟩
        rw [hstep 0 i _ _ hd hi, hd, hp, List.all_cons, hp]; rfl
      · obtain ⟨k, hk⟩ := ih (i + 1) (by omega) (by
          rw [List.take_succ_eq_append_getElem hi, List.all_append, ha]
          simp [hp])
        refine ⟨k + 1, ?_⟩
        rw [hstep k i _ _ hd hi, hd, hp, hk, List.all_cons, hp]; rfl
  simpa using go xs.length 0 (by omega) (by simp)
/-- The number of what comes ahead of a place. -/
def prevK {α : Type} (key : α -> Int) (xs : List α) (i : Nat) : Option Int := if i = 0 then none else (xs[i - 1]?).map key
theorem Qn3 {α : Type} {key : α -> Int} {xs r : List α} {x : α} {i : Nat} (h : xs.drop i = x :: r) : prevK key xs (i + 1) = some (key x) := by
  have h1 : xs[i]? = some x := by
    have := congrArg List.head? h
    rwa [List.head?_drop] at this
  unfold prevK
  rw [if_neg (by omega), Nat.add_sub_cancel, h1]; rfl
theorem Qkn {α : Type} (ok : α -> Bool) (key : α -> Int) (xs : List α) (b : Bool) (F : Nat -> Nat -> Option (Bool × Unit)) (hend : xs.all ok = true -> ∃ k, F k xs.length = some (b, ()))
    (hstep : ∀ k i x r, xs.drop i = x :: r -> i < xs.length -> F (k + 1) i = bif (ok x && rises (prevK key xs i) (key x)) then F k (i + 1) else some (false, ())) :
    ∃ k, F k 0 = some (riseL ok key none xs && b, ()) := by
  have go : ∀ (m i : Nat), i + m = xs.length -> (xs.take i).all ok = true -> ∃ k, F k i = some (riseL ok key (prevK key xs i) (xs.drop i) && b, ()) := by
    intro m
    induction m with
    | zero =>
      intro i h ha
      have : i = xs.length := by omega
      subst this
      rw [List.take_length] at ha
      rw [List.drop_length]
      exact hend ha
    | succ m ih =>
      intro i h ha
      have hi : i < xs.length := by omega
      have hd := List.drop_eq_getElem_cons hi
      have e : riseL ok key (prevK key xs i) (xs[i] :: xs.drop (i + 1)) = ((ok xs[i] && rises (prevK key xs i) (key xs[i])) && riseL ok key (some (key xs[i])) (xs.drop (i + 1))) := by
        rw [Bool.and_assoc]; rfl
      cases hp : (ok xs[i] && rises (prevK key xs i) (key xs[i]))
      · refine ⟨1, ?_⟩
        rw [hstep 0 i _ _ hd hi, hd, e, hp]; rfl
      · obtain ⟨k, hk⟩ := ih (i + 1) (by omega) (by
          rw [Bool.and_eq_true] at hp
          rw [List.take_succ_eq_append_getElem hi, List.all_append, ha]
          simp [hp.1])
        refine ⟨k + 1, ?_⟩
        rw [hstep k i _ _ hd hi, hd, e, hp, hk, Qn3 hd]; rfl
  have := go xs.length 0 (by omega) (by simp)
  rw [List.drop_zero] at this
  exact this
/-- One round of it. -/
theorem Qko {α : Type} (ok : α -> Bool) (key : α -> Int) {xs r : List α} {x : α} {i : Nat} (hx : xs.length <= 4294967296) (hd : xs.drop i = x :: r) (hi : i < xs.length) (Z : Option (Bool × Unit)) (rd : Int -> α) (hrd : ∀ j : Nat, j < xs.length -> some (rd j) = xs[j]?) :
    (bif (bif ok (rd (i : Int)) then false else true) then (some (false, ())) else (bif (decide ((0 : Int) < (i : Int))) then (bif (bif (decide ((0 : Int) <= (w64 ((i : Int) - (1 : Int))))) then (decide ((w64 ((i : Int) - (1 : Int))) < ((List.length xs : Int)))) else false) then (bif (decide (key (rd (i : Int)) <= key (rd (w64 ((i : Int) - (1 : Int)))))) then (some (false, ())) else Z) else none) else Z)) =
    bif (ok x && rises (prevK key xs i) (key x)) then Z else some (false, ()) := by
  have h1 : xs[i]? = some x := by
    have := congrArg List.head? hd
    rwa [List.head?_drop] at this
  have e1 : rd (i : Int) = x := by have := hrd i hi; rw [h1] at this; exact Option.some.inj this
  rw [e1]
  cases ha : ok x
  · rfl
  · by_cases h0 : i = 0
    · subst h0; rfl
    · have e2 : w64 ((i : Int) - (1 : Int)) = ((i - 1 : Nat) : Int) := by rw [Qae (by omega) (by omega)]; omega
      rw [e2, Qac (show i - 1 < xs.length by omega), decide_eq_true (show (0 : Int) < (i : Int) by omega)]
      have e3 : prevK key xs i = some (key (rd ((i - 1 : Nat) : Int))) := by
        unfold prevK
        rw [if_neg h0, <- hrd (i - 1) (by omega)]; rfl
      rw [e3]
      simp only [cond_true, cond_false, Bool.true_and, rises]
      by_cases hlt : key (rd ((i - 1 : Nat) : Int)) < key x
      · rw [decide_eq_true hlt, decide_eq_false (by omega)]; rfl
      · rw [decide_eq_false hlt, decide_eq_true (by omega)]; rfl
/-! ### Batches -/
def smB (b : MBat) : Bool := decide (b.2.2.1.length <= 4294967296) && (b.2.2.1.all (fun t => decide (t.2.2.2.2.length <= 4294967296)) && (decide (b.2.2.2.2.1.length <= 4294967296) && decide (b.2.2.2.2.2.length <= 4294967296)))
theorem Qba {b : MBat} : smB b = true ↔ b.2.2.1.length <= 4294967296 /\ (∀ t ∈ b.2.2.1, t.2.2.2.2.length <= 4294967296) /\ b.2.2.2.2.1.length <= 4294967296 /\ b.2.2.2.2.2.length <= 4294967296 := by
  unfold smB; simp only [Bool.and_eq_true, decide_eq_true_eq, List.all_eq_true]
theorem Qqq {α : Type} {xs ys : List α} (h : xs.length ≠ ys.length) : same xs ys = false := Qc0 fun e => h (congrArg List.length e)
def mixes (m : Int) (l : List Int) : Int := l.foldl mix m
def mixPre (m : Int) (l : List Int) : Bool := decide (0 <= m) && (decide (m < 999983) && decide (l.length <= 4294967296))
theorem Qi3 {m : Int} {l : List Int} : mixPre m l = true ↔ mkR m /\ l.length <= 4294967296 := by
  unfold mixPre mkR; simp only [Bool.and_eq_true, decide_eq_true_eq]
  exact ⟨fun h => ⟨⟨h.1, h.2.1⟩, h.2.2⟩, fun h => ⟨h.1.1, h.1.2, h.2⟩⟩
theorem mix_w {m n : Int} (h : mkR m) : Int.tmod (w64 (w64 (w64 (w64 (m * 8191) + Int.tmod n 999983) + 999983) + 7)) 999983 = mix m n := by
  obtain ⟨h1, h2⟩ := Qkj (n := n) h
  rw [Qae (x := m * 8191) (by omega) (by omega), Qae (x := m * 8191 + Int.tmod n 999983) (by omega) (by omega), Qae (x := m * 8191 + Int.tmod n 999983 + 999983) (by omega) (by omega), Qae (x := m * 8191 + Int.tmod n 999983 + 999983 + 7) (by omega) (by omega)]
  rfl
end Go.Vm

set_option linter.unusedVariables false
set_option linter.unusedSimpArgs false
namespace Go.Vm
theorem Ql1 : ∀ (l : List MAsk) (p : Option Int), riseL tstOk (fun t => t.1.1) p (l.map newT) = asksOk p l
  | [], p => rfl
  | a :: r, p => by
    show (tstOk (newT a) && (rises p a.1 && riseL tstOk (fun t => t.1.1) (some a.1) (r.map newT))) = (askOk a && (rises p a.1 && asksOk (some a.1) r))
    rw [Qn2, Ql1 r]
theorem Qd2 {l : List MAsk} (h : testsOk l = true) : 1 <= l.length /\ l.length <= 4 := by
  unfold testsOk at h
  have := Qah.1 (Bool.and_eq_true_iff.1 h).1
  omega
theorem Qpp {k n : Int} {l : List MAsk} (h1 : inq k 0 5 = true) (h2 : testsOk l = true) (h3 : inq n 1 10000 = true) : batOk (k, n, l.map newT, 1, [], []) = true := by
  have h4 := h2
  unfold testsOk at h4
  rw [Bool.and_eq_true] at h4
  have hlen : inq ((l.map newT).length : Int) 1 4 = true := by rw [List.length_map]; exact h4.1
  have hr : tstsOk none (l.map newT) = true := (Ql1 l none).trans h4.2
  unfold batOk batOkA
  show ((inq k 0 5 && (inq n 1 10000 && (inq ((l.map newT).length : Int) 1 4 && (inq 1 1 4 && (tstsOk none (l.map newT) && (decide (([] : List MSig).length <= 6) && (([] : List MSig).all sigOk && decide (([] : List Bool).length <= 3)))))))) && (!freed 1 || _)) = true
  rw [h1, h3, hlen, hr]; rfl
end Go.Vm

set_option linter.unusedVariables false
set_option linter.unusedSimpArgs false
namespace Go.Vm
/-- A loop that says whether one is so, and goes on behind it. -/
theorem Qpq {α : Type} (xs : List α) (p : α -> Bool) (z : Bool) (F : Nat -> Nat -> Option (Bool × Unit)) (hend : ∃ k, F k xs.length = some (z, ()))
    (hstep : ∀ k i x r, xs.drop i = x :: r -> i < xs.length -> F (k + 1) i = bif p x then some (true, ()) else F k (i + 1)) : ∃ k, F k 0 = some (xs.any p || z, ()) := by
  have go : ∀ (m i : Nat), i + m = xs.length -> ∃ k, F k i = some ((xs.drop i).any p || z, ()) := by
    intro m
    induction m with
    | zero =>
      intro i h
      have : i = xs.length := by omega
      subst this
      rw [List.drop_length]
      exact hend
    | succ m ih =>
      intro i h
      have hi : i < xs.length := by omega
      have hd := List.drop_eq_getElem_cons hi
      cases hp : p xs[i]
      · obtain ⟨k, hk⟩ := ih (i + 1) (by omega)
        refine ⟨k + 1, ?_⟩
        rw [hstep k i _ _ hd hi, hd, hp, hk, List.any_cons, hp]; rfl
      · refine ⟨1, ?_⟩
        rw [hstep 0 i _ _ hd hi, hd, hp, List.any_cons, hp]; rfl
  have := go xs.length 0 (by omega)
  rw [List.drop_zero] at this
  exact this
def mixW (m n : Int) : Int := Int.tmod (w64 (w64 (w64 (w64 (m * 8191) + Int.tmod n 999983) + 999983) + 7)) 999983
theorem Qc2 {m n : Int} (h : mkR m) : mixW m n = mix m n := mix_w h
def sigsOk (b : MBat) : Bool := b.2.2.2.2.1.all sigOk
theorem Qgx {s : MSig} : sigOk s = true ↔ (1 <= s.1 /\ s.1 <= 5) /\ signs s.2.1 = true /\ (0 <= s.2.2 /\ s.2.2 <= 999982) := by
  unfold sigOk; rw [Bool.and_eq_true, Bool.and_eq_true, Qah, Qah]
theorem Qn4 {b : MBat} (h : sigsOk b = true) : hands b = b.2.2.2.2.1.any (fun s => decide (1 <= s.1) && (decide (s.1 <= 5) && hand1 b s)) := by
  unfold hands
  rw [Bool.eq_iff_iff, List.any_eq_true, List.any_eq_true]
  constructor
  · rintro ⟨s, hs, h1⟩
    have h2 := (Qgx.1 (List.all_eq_true.1 h s hs)).1
    exact ⟨s, hs, by rw [h1, decide_eq_true h2.1, decide_eq_true h2.2]; rfl⟩
  · rintro ⟨s, hs, h1⟩
    simp only [Bool.and_eq_true] at h1
    exact ⟨s, hs, h1.2.2⟩
theorem Qn5 (b : MBat) {u : Int} (hu : u <= 5) : (b.2.2.2.2.1.any (fun s => decide (s.1 = u) && hand1 b s) || b.2.2.2.2.1.any (fun s => decide (u + 1 <= s.1) && (decide (s.1 <= 5) && hand1 b s))) = b.2.2.2.2.1.any (fun s => decide (u <= s.1) && (decide (s.1 <= 5) && hand1 b s)) := by
  rw [Bool.eq_iff_iff, Bool.or_eq_true, List.any_eq_true, List.any_eq_true, List.any_eq_true]
  simp only [Bool.and_eq_true, decide_eq_true_eq]
  constructor
  · rintro (⟨s, hs, h1, h2⟩ | ⟨s, hs, h1, h2, h3⟩)
    · exact ⟨s, hs, by omega, by omega, h2⟩
    · exact ⟨s, hs, by omega, h2, h3⟩
  · rintro ⟨s, hs, h1, h2, h3⟩
    by_cases e : s.1 = u
    · exact .inl ⟨s, hs, e, h3⟩
    · exact .inr ⟨s, hs, by omega, h2, h3⟩
theorem Qn6 (b : MBat) : b.2.2.2.2.1.any (fun s => decide ((6 : Int) <= s.1) && (decide (s.1 <= 5) && hand1 b s)) = false := by
  rw [Bool.eq_false_iff]
  intro h
  obtain ⟨s, hs, h1⟩ := List.any_eq_true.1 h
  simp only [Bool.and_eq_true, decide_eq_true_eq] at h1
  omega
/-! ### What a batch that is ok has -/
theorem Qa2 {b : MBat} : batOk b = true ↔ ((0 <= b.1 /\ b.1 <= 5) /\ (1 <= b.2.1 /\ b.2.1 <= 10000) /\ (1 <= b.2.2.1.length /\ b.2.2.1.length <= 4) /\ (1 <= b.2.2.2.1 /\ b.2.2.2.1 <= 4) /\ tstsOk none b.2.2.1 = true /\ b.2.2.2.2.1.length <= 6 /\ sigsOk b = true /\ b.2.2.2.2.2.length <= 3) /\ (freed b.2.2.2.1 = true -> gate b = true) := by
  unfold batOk batOkA sigsOk
  simp only [Bool.and_eq_true, Bool.or_eq_true, Qah, decide_eq_true_eq, Bool.not_eq_true']
  constructor
  · rintro ⟨⟨h1, h2, h3, h4, h5, h6, h7, h8⟩, h9⟩
    exact ⟨⟨h1, h2, by omega, h4, h5, h6, h7, h8⟩, fun hf => h9.resolve_left (by rw [hf]; decide)⟩
  · rintro ⟨⟨h1, h2, h3, h4, h5, h6, h7, h8⟩, h9⟩
    refine ⟨⟨h1, h2, by omega, h4, h5, h6, h7, h8⟩, ?_⟩
    cases hf : freed b.2.2.2.1
    · exact .inl rfl
    · exact .inr (h9 hf)
theorem Qf1 {α : Type} {ok : α -> Bool} {key : α -> Int} : ∀ {l : List α} {p : Option Int}, riseL ok key p l = true -> l.all ok = true
  | [], _, _ => rfl
  | t :: r, p, h => by
    unfold riseL at h
    simp only [Bool.and_eq_true] at h
    rw [List.all_cons, h.1, Qf1 h.2.2]; rfl
theorem Qpr {b : MBat} (h : batOk b = true) : smB b = true := by
  obtain ⟨⟨_, _, h3, _, h5, h6, _, h8⟩, _⟩ := Qa2.1 h
  refine Qba.2 ⟨by omega, fun t ht => ?_, by omega, by omega⟩
  have := Qkl (List.all_eq_true.1 (Qf1 h5) t ht)
  omega
theorem Qf2 {b : MBat} : isOpen b = true ↔ batOk b = true /\ b.2.2.2.1 = 1 := by
  unfold isOpen; rw [Bool.and_eq_true, decide_eq_true_eq]
theorem Qfh (l : List MTst) (n : Int) : findT l n = -1 ∨ (0 <= findT l n /\ findT l n < l.length) := Qff _ l
end Go.Vm

set_option linter.unusedVariables false
set_option linter.unusedSimpArgs false
namespace Go.Vm
def houSm (h : MHou) : Bool := decide (h.1.length <= 4294967296) && (smS h.2.1 && (decide (h.2.2.length <= 4294967296) && h.2.2.all smB))
theorem Qa9 {h : MHou} : houSm h = true ↔ h.1.length <= 4294967296 /\ smS h.2.1 = true /\ h.2.2.length <= 4294967296 /\ ∀ b ∈ h.2.2, smB b = true := by
  unfold houSm; simp only [Bool.and_eq_true, decide_eq_true_eq, List.all_eq_true]
theorem Qbu {h : MHou} : houOk h = true ↔ rolesOk h.1 = true /\ spcsOk h.2.1 = true /\ h.2.2.length <= 4 /\ ∀ b ∈ h.2.2, batIn h.1 h.2.1 b = true := by
  unfold houOk; simp only [Bool.and_eq_true, decide_eq_true_eq, List.all_eq_true]
theorem Qhp {l : List Int} : rolesOk l = true ↔ (1 <= l.length /\ l.length <= 5) /\ ∀ o ∈ l, inq o 1 4 = true := by
  unfold rolesOk; simp only [Bool.and_eq_true, List.all_eq_true, Qah]
  constructor
  · rintro ⟨h1, h2⟩; exact ⟨by omega, h2⟩
  · rintro ⟨h1, h2⟩; exact ⟨by omega, h2⟩
theorem Qcu {ro : List Int} {sp : List MSpc} {b : MBat} : batIn ro sp b = true ↔ batOk b = true /\ b.1 < (sp.length : Int) /\ (sp.getD b.1.toNat spc0).2 ≠ 1 /\ b.2.2.1.map (·.1) = (sp.getD b.1.toNat spc0).1 /\ ∀ s ∈ b.2.2.2.2.1, sigIn ro s = true := by
  unfold batIn; simp only [Bool.and_eq_true, decide_eq_true_eq, Bool.not_eq_true', decide_eq_false_iff_not, Qax, List.all_eq_true]
theorem Qps {ro : List Int} {s : MSig} : sigIn ro s = true ↔ s.1 <= (ro.length : Int) /\ ro.getD (s.1 - 1).toNat 0 = s.2.1 := by
  unfold sigIn; simp only [Bool.and_eq_true, decide_eq_true_eq]
theorem Qn7 {t : MTst} {w : Int} {v : MDec} {c : Int} (h : (tstTurn t w v c).2 = false) : (tstTurn t w v c).1 = t := by
  unfold tstTurn at h ⊢
  split
  · rename_i h1; rw [if_pos h1] at h; exact Qki h
  · rename_i h1
    rw [if_neg h1] at h
    split
    · rename_i h2; rw [if_pos h2] at h; exact Qhn h
    · rename_i h2
      rw [if_neg h2] at h
      split
      · rename_i h3; rw [if_pos h3] at h; exact Qiy h
      · rfl
theorem Qgy {α : Type} {c : Bool} {a b : α} (h : (bif c then (a, true) else (b, false) : α × Bool).2 = false) : (bif c then (a, true) else (b, false) : α × Bool).1 = b := by
  cases c
  · rfl
  · cases h
theorem Qn8 {b : MBat} {u r : Int} (h : (batSign b u r).2 = false) : (batSign b u r).1 = b := Qgy h
theorem Qef {b : MBat} {s : Int} (h : (batMove b s).2 = false) : (batMove b s).1 = b := Qgy h
theorem Qkp {b : MBat} {k : Int} {o : Bool} (h : (batDev b k o).2 = false) : (batDev b k o).1 = b := Qgy h
theorem Qf3 {b : MBat} {n w : Int} {v : MDec} {c : Int} (h : (batTest b n w v c).2 = false) : (batTest b n w v c).1 = b := by
  unfold batTest at h ⊢
  cases hc : (isOpen b && !decide (findT b.2.2.1 n < 0))
  · rfl
  · rw [hc] at h
    have h : (tstTurn (b.2.2.1.getD (findT b.2.2.1 n).toNat t0) w v c).2 = false := h
    simp only [Bool.and_eq_true, Bool.not_eq_true', decide_eq_false_iff_not] at hc
    have hr := Qfh b.2.2.1 n
    have hi : (findT b.2.2.1 n).toNat < b.2.2.1.length := by omega
    show (b.1, b.2.1, b.2.2.1.set _ (tstTurn _ w v c).1, b.2.2.2.1, b.2.2.2.2.1, b.2.2.2.2.2) = b
    rw [Qn7 h]
    have : b.2.2.1.set (findT b.2.2.1 n).toNat (b.2.2.1.getD (findT b.2.2.1 n).toNat t0) = b.2.2.1 := by
      refine Qe2 ?_
      rw [List.getD_eq_getElem?_getD, List.getElem?_eq_getElem hi]; rfl
    rw [this]
theorem Qn9 {b : MBat} {r : MReq} {o : Int} (h : (batTurn b r o).2 = false) : (batTurn b r o).1 = b := by
  revert h
  unfold batTurn
  split
  · exact Qf3
  · split
    · exact Qf3
    · split
      · exact Qf3
      · split
        · exact Qkp
        · split
          · exact Qkp
          · split
            · exact Qn8
            · split
              · exact Qef
              · split
                · exact Qef
                · exact Qef
theorem Qkq {l : List MSpc} {t : List MAsk} (h : (spcAdd l t).2 = false) : (spcAdd l t).1 = l := Qgy h
theorem Qhq {l : List MSpc} {k : Int} (h : (spcRaise l k).2 = false) : (spcRaise l k).1 = l := Qgy h
theorem Qra {l : List MBat} {i : Int} {b : MBat} (h1 : i.toNat < l.length) (h : b = l.getD i.toNat batNone) : l.set i.toNat b = l := by
  subst h
  refine Qe2 ?_
  rw [List.getD_eq_getElem?_getD, List.getElem?_eq_getElem h1]; rfl
theorem Qgz (l : List MSpc) : spcNow l = -1 ∨ (0 <= spcNow l /\ spcNow l < l.length) := Qff _ l
theorem Qh7 {l : List MBat} {i : Int} (h1 : 0 <= i) (h2 : i < l.length) : l.getD i.toNat batNone ∈ l := by
  have h : i.toNat < l.length := by omega
  rw [List.getD_eq_getElem?_getD, List.getElem?_eq_getElem h]
  exact List.getElem_mem h
theorem Qh8 {l : List MSpc} {i : Int} (h1 : 0 <= i) (h2 : i < l.length) : l.getD i.toNat spc0 ∈ l := by
  have h : i.toNat < l.length := by omega
  rw [List.getD_eq_getElem?_getD, List.getElem?_eq_getElem h]
  exact List.getElem_mem h
theorem Ql2 {h : MHou} (hk : houOk h = true) : houSm h = true := by
  obtain ⟨h1, h2, h3, h4⟩ := Qbu.1 hk
  have h1 := (Qhp.1 h1).1
  obtain ⟨g1, g2, _⟩ := Qb7.1 h2
  refine Qa9.2 ⟨by omega, Qbc.2 ⟨by omega, fun s hs => ?_⟩, by omega, fun b hb => Qpr (Qcu.1 (h4 b hb)).1⟩
  have := g2 s hs
  unfold spcOk1 at this
  have := Qd2 (Bool.and_eq_true_iff.1 this).1
  omega
theorem Qfc {r : MReq} : reqOk r = true ↔ inq r.2.1 1 12 = true /\ inq r.1 1 5 = true /\ (r.2.2.1 = 0 ∨ (hasB r.2.1 = true /\ inq r.2.2.1 0 9 = true)) /\ (r.2.2.2.2.1 = 0 ∨ (hasN r.2.1 = true /\ inq r.2.2.2.2.1 0 10000 = true)) /\ (r.2.2.2.2.2.1 = (0, 0) ∨ (hasV r.2.1 = true /\ decOk r.2.2.2.2.2.1 = true)) /\
    (bif hasT r.2.1 then inq r.2.2.2.1 1 4 else decide (r.2.2.2.1 = 0)) = true /\ (bif decide (r.2.1 = 1) then testsOk r.2.2.2.2.2.2 else decide (r.2.2.2.2.2.2.length = 0)) = true := by
  unfold reqOk; simp only [Bool.and_eq_true, Bool.or_eq_true, decide_eq_true_eq, Qax]
theorem Qhr {r : MReq} (h : reqOk r = true) : 0 <= r.2.2.1 := by
  obtain ⟨_, _, h3, _⟩ := Qfc.1 h
  rcases h3 with h | ⟨_, h⟩
  · omega
  · exact (Qah.1 h).1
theorem Qmm {r : MReq} (h : reqOk r = true) : r.2.2.2.2.2.2.length <= 4 := by
  obtain ⟨_, _, _, _, _, _, h7⟩ := Qfc.1 h
  cases hk : decide (r.2.1 = 1)
  · rw [hk] at h7
    have := of_decide_eq_true h7
    omega
  · rw [hk] at h7
    have := Qd2 h7
    omega
noncomputable def houTakeN (h : MHou) (n : Int) : MHou × Int :=
  if spcNow h.2.1 < 0 then (h, 4) else if h.2.2.length = 4 then (h, 6) else if n = 0 then (h, 5) else
    ((h.1, h.2.1, h.2.2 ++ [batNew (spcNow h.2.1) (h.2.1.getD (spcNow h.2.1).toNat spc0).1 n]), 1)
end Go.Vm

set_option linter.unusedVariables false
set_option linter.unusedSimpArgs false
namespace Go.Vm
theorem Ql3 {α : Type} {ok : α -> Bool} {key : α -> Int} : ∀ {l : List α} {p : Option Int} {i : Nat} {t : α}, riseL ok key p l = true -> ok t = true -> (∀ x, l[i]? = some x -> key t = key x) -> riseL ok key p (l.set i t) = true
  | [], p, i, t, h, _, _ => h
  | x :: r, p, 0, t, h, h1, h2 => by
    have h2 := h2 x rfl
    unfold riseL at h
    simp only [Bool.and_eq_true] at h
    show (ok t && (rises p (key t) && riseL ok key (some (key t)) r)) = true
    rw [h1, h2, h.2.1, h.2.2]; rfl
  | x :: r, p, i + 1, t, h, h1, h2 => by
    unfold riseL at h
    simp only [Bool.and_eq_true] at h
    show (ok x && (rises p (key x) && riseL ok key (some (key x)) (r.set i t))) = true
    rw [h.1, h.2.1, Ql3 h.2.2 h1 (fun y hy => h2 y hy)]; rfl
theorem Qoa {t : MTst} {w : Int} {v : MDec} {c : Int} (h : tstOk t = true) : tstOk (tstTurn t w v c).1 = true /\ (tstTurn t w v c).1.1 = t.1 := by
  have hp : ∀ v, tstOk (tstPut t v).1 = true /\ (tstPut t v).1.1 = t.1 := fun v => by
    cases hc : (tstPut t v).2
    · rw [Qki hc]; exact ⟨h, rfl⟩
    · exact ⟨(Qiz hc).2, by rw [(Qiz hc).1]; rfl⟩
  have hca : ∀ c, tstOk (tstCause t c).1 = true /\ (tstCause t c).1.1 = t.1 := fun c => by
    cases hc : (tstCause t c).2
    · rw [Qhn hc]; exact ⟨h, rfl⟩
    · exact ⟨(Qgu hc).2, by rw [(Qgu hc).1]; rfl⟩
  have hm : ∀ v, tstOk (tstMore t v).1 = true /\ (tstMore t v).1.1 = t.1 := fun v => by
    cases hc : (tstMore t v).2
    · rw [Qiy hc]; exact ⟨h, rfl⟩
    · exact ⟨(Qho hc).2, by rw [(Qho hc).1]; rfl⟩
  unfold tstTurn
  split
  · exact hp v
  · split
    · exact hca c
    · split
      · exact hm v
      · exact ⟨h, rfl⟩
/-- What a turning of a batch leaves. -/
structure TurnOk (b b' : MBat) (u o : Int) : Prop where
  ok : batOk b' = true
  spec : b'.1 = b.1
  boxes : b'.2.1 = b.2.1
  asks : b'.2.2.1.map (·.1) = b.2.2.1.map (·.1)
  sigs : ∀ s ∈ b'.2.2.2.2.1, s ∈ b.2.2.2.2.1 ∨ (s.1 = u /\ s.2.1 = o)
theorem TurnOk.self {b : MBat} {u o : Int} (h : batOk b = true) : TurnOk b b u o := ⟨h, rfl, rfl, rfl, fun s hs => .inl hs⟩
theorem Qm7 {l : List MTst} {i : Nat} (h : i < l.length) : l[i]? = some (l.getD i t0) := by
  rw [List.getD_eq_getElem?_getD, List.getElem?_eq_getElem h]; rfl
theorem Qh9 {b : MBat} (h : isOpen b = true) : batOk b = true /\ b.2.2.2.1 = 1 := Qf2.1 h
theorem Qf4 {b : MBat} {n w : Int} {v : MDec} {c u o : Int} (h : batOk b = true) : TurnOk b (batTest b n w v c).1 u o := by
  unfold batTest
  cases hc : (isOpen b && !decide (findT b.2.2.1 n < 0))
  · exact TurnOk.self h
  · simp only [Bool.and_eq_true, Bool.not_eq_true', decide_eq_false_iff_not] at hc
    obtain ⟨ho, hf⟩ := hc
    have hr := (Qfh b.2.2.1 n).resolve_left (by omega)
    have hi : (findT b.2.2.1 n).toNat < b.2.2.1.length := by omega
    obtain ⟨⟨h1, h2, h3, h4, h5, h6, h7, h8⟩, _⟩ := Qa2.1 h
    have hs := (Qh9 ho).2
    have hmem : b.2.2.1.getD (findT b.2.2.1 n).toNat t0 ∈ b.2.2.1 := by
      rw [List.getD_eq_getElem?_getD, List.getElem?_eq_getElem hi]
      exact List.getElem_mem hi
    obtain ⟨g1, g2⟩ := Qoa (w := w) (v := v) (c := c) (List.all_eq_true.1 (Qf1 h5) _ hmem)
    refine ⟨Qa2.2 ⟨⟨h1, h2, ?_, h4, ?_, h6, h7, h8⟩, fun hf => ?_⟩, rfl, rfl, ?_, fun s hs => .inl hs⟩
    · show 1 <= (b.2.2.1.set _ _).length /\ (b.2.2.1.set _ _).length <= 4
      rw [List.length_set]; exact h3
    · refine Ql3 h5 g1 fun x hx => ?_
      rw [Qm7 hi] at hx
      show (tstTurn (b.2.2.1.getD (findT b.2.2.1 n).toNat t0) w v c).1.1.1 = x.1.1
      rw [g2, Option.some.inj hx]
    · have hf : freed b.2.2.2.1 = true := hf
      rw [hs] at hf; cases hf
    · show (b.2.2.1.set _ _).map (·.1) = _
      rw [List.map_set, g2]
      refine Qe2 ?_
      rw [List.getElem?_map, Qm7 hi]; rfl
theorem Qkr {b : MBat} {k : Int} {d : Bool} {u o : Int} (h : batOk b = true) : TurnOk b (batDev b k d).1 u o := by
  unfold batDev
  cases hc : (isOpen b && (bif d then decide (k = b.2.2.2.2.2.length) && decide (k < 3) else inq k 0 ((b.2.2.2.2.2.length : Int) - 1) && b.2.2.2.2.2.getD k.toNat false))
  · exact TurnOk.self h
  · rw [Bool.and_eq_true] at hc
    obtain ⟨ho, hd⟩ := hc
    obtain ⟨⟨h1, h2, h3, h4, h5, h6, h7, h8⟩, _⟩ := Qa2.1 h
    have hs := (Qh9 ho).2
    refine ⟨Qa2.2 ⟨⟨h1, h2, h3, h4, h5, h6, h7, ?_⟩, fun hf => ?_⟩, rfl, rfl, rfl, fun s hs => .inl hs⟩
    · show (bif d then b.2.2.2.2.2 ++ [true] else b.2.2.2.2.2.set k.toNat false).length <= 3
      cases d
      · show (b.2.2.2.2.2.set k.toNat false).length <= 3
        rw [List.length_set]; exact h8
      · simp only [cond_true, Bool.and_eq_true, decide_eq_true_eq] at hd
        show (b.2.2.2.2.2 ++ [true]).length <= 3
        rw [List.length_append]; show b.2.2.2.2.2.length + 1 <= 3; omega
    · have hf : freed b.2.2.2.1 = true := hf
      rw [hs] at hf; cases hf
theorem Qob {b : MBat} {u o : Int} (h : batOk b = true) : TurnOk b (batSign b u o).1 u o := by
  unfold batSign
  cases hc : (isOpen b && (inq u 1 5 && (signs o && !decide (b.2.2.2.2.1.length = 6))))
  · exact TurnOk.self h
  · simp only [Bool.and_eq_true, Bool.not_eq_true', decide_eq_false_iff_not] at hc
    obtain ⟨ho, hu, hr, hl⟩ := hc
    obtain ⟨⟨h1, h2, h3, h4, h5, h6, h7, h8⟩, _⟩ := Qa2.1 h
    have hs := (Qh9 ho).2
    have hm := Qpo b
    refine ⟨Qa2.2 ⟨⟨h1, h2, h3, h4, h5, ?_, ?_, h8⟩, fun hf => ?_⟩, rfl, rfl, rfl, fun s hs => ?_⟩
    · show (b.2.2.2.2.1 ++ [_]).length <= 6
      rw [List.length_append]; show b.2.2.2.2.1.length + 1 <= 6; omega
    · show (b.2.2.2.2.1 ++ [(u, o, batMark b)]).all sigOk = true
      have h7 : b.2.2.2.2.1.all sigOk = true := h7
      rw [List.all_append, h7]
      show (sigOk (u, o, batMark b) && true) = true
      have : sigOk (u, o, batMark b) = true := Qgx.2 ⟨Qah.1 hu, hr, hm.1, by have := hm.2; show batMark b <= 999982; omega⟩
      rw [this]; rfl
    · have hf : freed b.2.2.2.1 = true := hf
      rw [hs] at hf; cases hf
    · rcases List.mem_append.1 hs with hs | hs
      · exact .inl hs
      · rw [List.mem_singleton.1 hs]; exact .inr ⟨rfl, rfl⟩
theorem Qoc (b : MBat) (s : Int) : gate (b.1, b.2.1, b.2.2.1, s, b.2.2.2.2.1, b.2.2.2.2.2) = gate b := rfl
theorem Qmn {b : MBat} {s : Int} : (batMove b s).2 = true ↔ batOk b = true /\ ((b.2.2.2.1 = 1 /\ (s = 3 ∨ (s = 2 /\ gate b = true))) ∨ (b.2.2.2.1 = 2 /\ s = 4)) := by
  unfold batMove
  cases hc : (batOk b && ((decide (b.2.2.2.1 = 1) && (decide (s = 3) || (decide (s = 2) && gate b))) || (decide (b.2.2.2.1 = 2) && decide (s = 4))))
  · constructor
    · intro h; cases h
    · intro h
      have : (batOk b && ((decide (b.2.2.2.1 = 1) && (decide (s = 3) || (decide (s = 2) && gate b))) || (decide (b.2.2.2.1 = 2) && decide (s = 4)))) = true := by
        simp only [Bool.and_eq_true, Bool.or_eq_true, decide_eq_true_eq]; exact h
      rw [hc] at this; cases this
  · simp only [Bool.and_eq_true, Bool.or_eq_true, decide_eq_true_eq] at hc
    exact ⟨fun _ => hc, fun _ => rfl⟩
theorem Qmo {b : MBat} {s : Int} (h : (batMove b s).2 = true) : (batMove b s).1 = (b.1, b.2.1, b.2.2.1, s, b.2.2.2.2.1, b.2.2.2.2.2) := by
  unfold batMove at h ⊢
  cases hc : (batOk b && ((decide (b.2.2.2.1 = 1) && (decide (s = 3) || (decide (s = 2) && gate b))) || (decide (b.2.2.2.1 = 2) && decide (s = 4))))
  · rw [hc] at h; cases h
  · rfl
theorem Qf5 {b : MBat} {s u o : Int} (h : batOk b = true) : TurnOk b (batMove b s).1 u o := by
  cases hc : (batMove b s).2
  · rw [Qef hc]; exact TurnOk.self h
  · rw [Qmo hc]
    obtain ⟨_, hm⟩ := Qmn.1 hc
    obtain ⟨⟨h1, h2, h3, h4, h5, h6, h7, h8⟩, hg⟩ := Qa2.1 h
    refine ⟨Qa2.2 ⟨⟨h1, h2, h3, ?_, h5, h6, h7, h8⟩, fun hf => ?_⟩, rfl, rfl, rfl, fun s hs => .inl hs⟩
    · show 1 <= s /\ s <= 4
      rcases hm with ⟨_, h | ⟨h, _⟩⟩ | ⟨_, h⟩ <;> omega
    · rw [Qoc]
      rcases hm with ⟨_, hs | ⟨_, hs⟩⟩ | ⟨hs, _⟩
      · have hf : freed s = true := hf
        rw [hs] at hf; cases hf
      · exact hs
      · exact hg (by rw [hs]; rfl)
theorem Qod {b : MBat} {r : MReq} {o : Int} (h : batOk b = true) : TurnOk b (batTurn b r o).1 r.1 o := by
  unfold batTurn
  split
  · exact Qf4 h
  · split
    · exact Qf4 h
    · split
      · exact Qf4 h
      · split
        · exact Qkr h
        · split
          · exact Qkr h
          · split
            · exact Qob h
            · split
              · exact Qf5 h
              · split
                · exact Qf5 h
                · exact Qf5 h
theorem Qoe {l : List MSpc} {t : List MAsk} : (spcAdd l t).2 = true ↔ spcsOk l = true /\ testsOk t = true /\ l.length ≠ 6 := by
  unfold spcAdd
  cases hc : (spcsOk l && (testsOk t && !decide (l.length = 6)))
  · constructor
    · intro h; cases h
    · rintro ⟨h1, h2, h3⟩
      rw [h1, h2, decide_eq_false h3] at hc; cases hc
  · simp only [Bool.and_eq_true, Bool.not_eq_true', decide_eq_false_iff_not] at hc
    exact ⟨fun _ => hc, fun _ => rfl⟩
theorem Qof {l : List MSpc} {t : List MAsk} (h : (spcAdd l t).2 = true) : (spcAdd l t).1 = l ++ [(t, 1)] := by
  unfold spcAdd at h ⊢
  cases hc : (spcsOk l && (testsOk t && !decide (l.length = 6)))
  · rw [hc] at h; cases h
  · rfl
theorem Qg0 {l : List MSpc} {k : Int} (h : (spcRaise l k).2 = true) : (spcRaise l k).1 = (l.map retire).set k.toNat ((l.getD k.toNat spc0).1, 2) := by
  unfold spcRaise at h ⊢
  cases hc : (spcsOk l && (inq k 0 ((l.length : Int) - 1) && decide ((l.getD k.toNat ([], 0)).2 = 1)))
  · rw [hc] at h; cases h
  · rfl
theorem Qog {l : List MSpc} {k : Int} (h : (spcRaise l k).2 = true) : spcsOk (spcRaise l k).1 = true := by
  cases hc : (spcsOk l && (inq k 0 ((l.length : Int) - 1) && decide ((l.getD k.toNat ([], 0)).2 = 1)))
  · unfold spcRaise at h
    rw [hc] at h; cases h
  · rw [Qg0 h]
    exact (Qqm hc).2.2.2.2.1
/-- What a batch needs of its house's specifications. -/
theorem Qi4 {ro : List Int} {l m : List MSpc} {b : MBat} (h : batIn ro l b = true) (hm : ∀ i : Nat, i < l.length -> i < m.length /\ (m.getD i spc0).1 = (l.getD i spc0).1 /\ ((l.getD i spc0).2 ≠ 1 -> (m.getD i spc0).2 ≠ 1)) : batIn ro m b = true := by
  obtain ⟨h1, h2, h3, h4, h5⟩ := Qcu.1 h
  have h0 := (Qa2.1 h1).1.1
  obtain ⟨g1, g2, g3⟩ := hm b.1.toNat (by omega)
  exact Qcu.2 ⟨h1, by omega, g3 h3, by rw [g2]; exact h4, h5⟩
theorem Ql4 (s : MSpc) (h : s.2 ≠ 1) : (retire s).2 ≠ 1 := by
  unfold retire
  cases decide (s.2 = 2)
  · exact h
  · show (3 : Int) ≠ 1; decide
theorem Qqr {l : List MSpc} {f : MSpc -> MSpc} {i : Nat} (h : i < l.length) : (l.map f).getD i spc0 = f (l.getD i spc0) := by
  rw [List.getD_eq_getElem?_getD, List.getD_eq_getElem?_getD, List.getElem?_map, List.getElem?_eq_getElem h]; rfl
theorem Qqs {l : List MSpc} {k : Int} (h : (spcRaise l k).2 = true) {i : Nat} (hi : i < l.length) : i < (spcRaise l k).1.length /\ ((spcRaise l k).1.getD i spc0).1 = (l.getD i spc0).1 /\ ((l.getD i spc0).2 ≠ 1 -> ((spcRaise l k).1.getD i spc0).2 ≠ 1) := by
  rw [Qg0 h]
  have hl : ((l.map retire).set k.toNat ((l.getD k.toNat spc0).1, 2)).length = l.length := by rw [List.length_set, List.length_map]
  refine ⟨by rw [hl]; exact hi, ?_⟩
  by_cases e : k.toNat = i
  · subst e
    have : ((l.map retire).set k.toNat ((l.getD k.toNat spc0).1, 2)).getD k.toNat spc0 = ((l.getD k.toNat spc0).1, 2) := by
      rw [List.getD_eq_getElem?_getD, List.getElem?_set_self (by rw [List.length_map]; exact hi)]; rfl
    rw [this]
    exact ⟨rfl, fun _ => by show (2 : Int) ≠ 1; decide⟩
  · have : ((l.map retire).set k.toNat ((l.getD k.toNat spc0).1, 2)).getD i spc0 = retire (l.getD i spc0) := by
      rw [List.getD_eq_getElem?_getD, List.getElem?_set_ne e, <- List.getD_eq_getElem?_getD, Qqr hi]
    rw [this]
    exact ⟨Qdq _, Ql4 _⟩
theorem Qmp {l : List MSpc} {x : MSpc} {i : Nat} (h : i < l.length) : (l ++ [x]).getD i spc0 = l.getD i spc0 := by
  rw [List.getD_eq_getElem?_getD, List.getD_eq_getElem?_getD, List.getElem?_append_left h]
theorem Qks {α : Type} {p : α -> Bool} : ∀ {l : List α} {k : Nat} {i : Int}, idxOf p l k = i -> 0 <= i -> ∃ x, l[(i - k).toNat]? = some x /\ p x = true /\ (k : Int) <= i
  | [], k, i, h, h0 => by
    have : (-1 : Int) = i := h
    omega
  | y :: r, k, i, h, h0 => by
    have e : idxOf p (y :: r) k = bif p y then (k : Int) else idxOf p r (k + 1) := rfl
    rw [e] at h
    cases hp : p y
    · rw [hp] at h
      obtain ⟨x, h1, h2, h3⟩ := Qks (l := r) (k := k + 1) h h0
      refine ⟨x, ?_, h2, by omega⟩
      have : (i - (k : Int)).toNat = (i - ((k + 1 : Nat) : Int)).toNat + 1 := by omega
      rw [this]; exact h1
    · rw [hp] at h
      have h : (k : Int) = i := h
      refine ⟨y, ?_, hp, by omega⟩
      have : (i - (k : Int)).toNat = 0 := by omega
      rw [this]; rfl
theorem Ql5 {l : List MSpc} (h : 0 <= spcNow l) : (l.getD (spcNow l).toNat spc0).2 = 2 := by
  obtain ⟨x, h1, h2, _⟩ := Qks (p := fun s : MSpc => decide (s.2 = 2)) (l := l) (k := 0) (i := spcNow l) rfl h
  have e : (spcNow l - ((0 : Nat) : Int)).toNat = (spcNow l).toNat := by omega
  rw [e] at h1
  rw [List.getD_eq_getElem?_getD, h1]
  exact of_decide_eq_true h2
theorem Qoh {h : MHou} {r : MReq} (hh : houOk h = true) (hr : reqOk r = true) : houOk (houTake h r).1 = true := by
  obtain ⟨h1, h2, h3, h4⟩ := Qbu.1 hh
  unfold houTake
  split
  · exact hh
  · rename_i hn
    split
    · exact hh
    · rename_i hl
      split
      · exact hh
      · rename_i hz
        have hr0 := (Qgz h.2.1).resolve_left (by omega)
        obtain ⟨g1, g2, _⟩ := Qb7.1 h2
        have hmem := Qh8 hr0.1 hr0.2
        have hok1 := g2 _ hmem
        unfold spcOk1 at hok1
        have ht := (Bool.and_eq_true_iff.1 hok1).1
        have hn' : inq r.2.2.2.2.1 1 10000 = true := by
          rcases (Qfc.1 hr).2.2.2.1 with h | ⟨_, h⟩
          · exact absurd h hz
          · have := Qah.1 h
            exact Qah.2 ⟨by omega, this.2⟩
        have hk : inq (spcNow h.2.1) 0 5 = true := Qah.2 ⟨hr0.1, by omega⟩
        have hb : batNew (spcNow h.2.1) (h.2.1.getD (spcNow h.2.1).toNat spc0).1 r.2.2.2.2.1 = (spcNow h.2.1, r.2.2.2.2.1, (h.2.1.getD (spcNow h.2.1).toNat spc0).1.map newT, 1, [], []) := by
          unfold batNew; rw [hk, ht, hn']; rfl
        refine Qbu.2 ⟨h1, h2, ?_, fun b hm => ?_⟩
        · show (h.2.2 ++ [_]).length <= 4
          rw [List.length_append]; show h.2.2.length + 1 <= 4; omega
        · rcases List.mem_append.1 hm with hm | hm
          · exact h4 b hm
          · rw [List.mem_singleton.1 hm, hb]
            refine Qcu.2 ⟨Qpp hk ht hn', hr0.2, ?_, ?_, fun s hs => by cases hs⟩
            · show (h.2.1.getD (spcNow h.2.1).toNat spc0).2 ≠ 1
              rw [Ql5 hr0.1]; decide
            · show (((h.2.1.getD (spcNow h.2.1).toNat spc0).1.map newT).map (·.1)) = (h.2.1.getD (spcNow h.2.1).toNat spc0).1
              rw [List.map_map]
              exact List.map_id' _
theorem Qoi {h : MHou} {r : MReq} (hh : houOk h = true) (hr : reqOk r = true) (hm : houMay h r = true) : houOk (houTurn h r).1 = true := by
  obtain ⟨h1, h2, h3, h4⟩ := Qbu.1 hh
  unfold houTurn
  split
  · exact hh
  · rename_i hl
    have h0 := Qhr hr
    have hmem := Qh7 h0 (show r.2.2.1 < h.2.2.length by omega)
    obtain ⟨g1, g2, g3, g4, g5⟩ := Qcu.1 (h4 _ hmem)
    have ht := Qod (r := r) (o := roleOf h r) g1
    refine Qbu.2 ⟨h1, h2, by show (h.2.2.set _ _).length <= 4; rw [List.length_set]; exact h3, fun b hb => ?_⟩
    rcases List.mem_or_eq_of_mem_set hb with hb | hb
    · exact h4 b hb
    · rw [hb]
      refine Qcu.2 ⟨ht.ok, by rw [ht.spec]; exact g2, by rw [ht.spec]; exact g3, by rw [ht.asks, ht.spec]; exact g4, fun s hs => ?_⟩
      rcases ht.sigs s hs with hs | ⟨e1, e2⟩
      · exact g5 s hs
      · unfold houMay at hm
        simp only [Bool.and_eq_true, decide_eq_true_eq] at hm
        refine Qps.2 ⟨by rw [e1]; exact hm.1, ?_⟩
        rw [e1, e2]; rfl
/-- A house stays one. -/
theorem Qqt {h : MHou} {r : MReq} (hh : houOk h = true) (hr : reqOk r = true) : houOk (houGo h r).1 = true := by
  obtain ⟨h1, h2, h3, h4⟩ := Qbu.1 hh
  unfold houGo
  cases hm : houMay h r
  · exact hh
  · rw [cond_true]
    split
    · cases hc : (spcAdd h.2.1 r.2.2.2.2.2.2).2
      · show houOk (h.1, (spcAdd h.2.1 r.2.2.2.2.2.2).1, h.2.2) = true
        rw [Qkq hc]; exact hh
      · show houOk (h.1, (spcAdd h.2.1 r.2.2.2.2.2.2).1, h.2.2) = true
        rw [Qof hc]
        obtain ⟨_, g2, g3⟩ := Qoe.1 hc
        have hlen := (Qb7.1 h2).1
        refine Qbu.2 ⟨h1, Qny h2 g2 (by omega), h3, fun b hb => Qi4 (h4 b hb) fun i hi => ?_⟩
        rw [Qmp hi]
        exact ⟨by rw [List.length_append]; omega, rfl, fun h => h⟩
    · split
      · split
        · exact hh
        · cases hc : (spcRaise h.2.1 r.2.2.2.2.1).2
          · show houOk (h.1, (spcRaise h.2.1 r.2.2.2.2.1).1, h.2.2) = true
            rw [Qhq hc]; exact hh
          · show houOk (h.1, (spcRaise h.2.1 r.2.2.2.2.1).1, h.2.2) = true
            refine Qbu.2 ⟨h1, ?_, h3, fun b hb => Qi4 (h4 b hb) fun i hi => Qqs hc hi⟩
            exact Qog hc
      · split
        · exact Qoh hh hr
        · exact Qoi hh hr hm
end Go.Vm


set_option linter.unusedVariables false
set_option linter.unusedSimpArgs false
namespace Go.Vm
/-! ### Sizes -/
def sq (a : Int) (k : Int -> Int) : Int := if a < 0 then -1 else k a
def siN (n : Nat) (l : Int) : Int := if l < (n : Int) then -1 else l - (n : Int)
def siTst (t : MTst) (l : Int) : Int := siN t.2.2.2.2.length l
def siBat (b : MBat) (l : Int) : Int := sq (szList siTst b.2.2.1 l) fun l => sq (siN b.2.2.2.2.1.length l) fun l => sq (siN b.2.2.2.2.2.length l) fun l => l
def siHou (h : MHou) (l : Int) : Int := sq (siN h.1.length l) fun l => sq (szList szSpc h.2.1 l) fun l => sq (szList siBat h.2.2 l) fun l => l
theorem p_sq {a : Int} {k : Int -> Int} {X : Option (Int × Unit)} (h : 0 <= a -> X = some (k a, ())) : (bif decide (a < (0 : Int)) then (some ((-1 : Int), ())) else X) = some (sq a k, ()) := by
  unfold sq
  by_cases h1 : a < 0
  · rw [if_pos h1, decide_eq_true h1]; rfl
  · rw [if_neg h1, decide_eq_false h1]; exact h (by omega)
theorem sq_nn {a : Int} {k : Int -> Int} (h : 0 <= sq a k) : 0 <= a /\ sq a k = k a := by
  unfold sq at h ⊢
  by_cases h1 : a < 0
  · rw [if_pos h1] at h; omega
  · rw [if_neg h1] at h ⊢; exact ⟨by omega, rfl⟩
theorem sq_le {a : Int} {k : Int -> Int} {l : Int} (h0 : 0 <= l) (h : 0 <= a -> k a <= l) : sq a k <= l := by
  unfold sq
  by_cases h1 : a < 0
  · rw [if_pos h1]; omega
  · rw [if_neg h1]; exact h (by omega)
theorem Ql6 {n : Nat} {l : Int} (h : 0 <= l) : siN n l <= l := by unfold siN; split <;> omega
theorem Qcv {n : Nat} {l : Int} (h : 0 <= siN n l) : siN n l = l - n /\ (n : Int) <= l := by
  unfold siN at h ⊢
  by_cases h1 : l < (n : Int)
  · rw [if_pos h1] at h; omega
  · rw [if_neg h1]; exact ⟨rfl, by omega⟩
theorem Qpt {α : Type} {f : α -> Int -> Int} {xs : List α} {l : Int} (h : 0 <= szList f xs l) : (xs.length : Int) <= l := by
  unfold szList at h
  split at h <;> omega
theorem Qdk : Dec1 siTst := fun t l h => Ql6 h
theorem Qmq (t : MTst) (l : Int) (h : l <= 1048576) (h2 : 0 <= siTst t l) : t.2.2.2.2.length <= 1048576 := by
  have := Qcv (n := t.2.2.2.2.length) (l := l) h2; omega
theorem Qea : Dec1 szSpc := fun s l h => Qlu _ _ h
theorem Qfd : Dec1 siBat := fun b l h => sq_le h fun h1 => sq_le h fun h2 => sq_le h fun h3 => by
  have e1 := Qcr (f := siTst) (xs := b.2.2.1) Qdk h
  have e2 := Qcv h2
  have e3 := Qcv h3
  omega
theorem Qmr {b : MBat} {l : Int} (h : l <= 1048576) (h2 : 0 <= siBat b l) : smB b = true := by
  obtain ⟨g1, e1⟩ := sq_nn h2
  unfold siBat at h2
  rw [e1] at h2
  obtain ⟨g2, e2⟩ := sq_nn h2
  rw [e2] at h2
  obtain ⟨g3, e3⟩ := sq_nn h2
  have h0 := Qpt g1
  have k1 := Qfy (f := siTst) Qdk (P := fun t => t.2.2.2.2.length <= 1048576) Qmq h g1
  have k1' := Qcr (f := siTst) (xs := b.2.2.1) Qdk (l := l) (by omega)
  have k2 := Qcv g2
  have k3 := Qcv g3
  exact Qba.2 ⟨by omega, fun t ht => Nat.le_trans (k1.2 t ht) (by decide), by omega, by omega⟩
theorem Qoj (t : MTst) (l : Int) (h0 : 0 <= l) (h1 : 0 <= siTst t l) : (szT t : Int) <= 10 + 10 * (l - siTst t l) := by
  have e := Qcv (n := t.2.2.2.2.length) (l := l) h1
  have e' : siTst t l = l - t.2.2.2.2.length := e.1
  unfold szT
  rw [Qbm, e']
  omega
theorem Qok (b : MBat) (l : Int) (h0 : 0 <= l) (h1 : 0 <= siBat b l) : (szB b : Int) <= 10 + 10 * (l - siBat b l) := by
  have h2 := h1
  obtain ⟨g1, e1⟩ := sq_nn h2
  unfold siBat at h2
  rw [e1] at h2
  obtain ⟨g2, e2⟩ := sq_nn h2
  rw [e2] at h2
  obtain ⟨g3, e3⟩ := sq_nn h2
  have e : siBat b l = _ := e1.trans (e2.trans e3)
  have k1 := Qfg (f := siTst) (sz := szT) (xs := b.2.2.1) Qdk Qoj h0 g1
  have k2 := Qcv g2
  have k3 := Qcv g3
  rw [e]
  unfold szB
  rw [Qbm, Qbm]
  omega
/-- A house. -/
def mkHou (h : MHou) (k : Int) : MHou × Int :=
  (((markL mkInt h.1 k).1, (markL mkSpc h.2.1 (markL mkInt h.1 k).2).1, (markL mkBat h.2.2 (markL mkSpc h.2.1 (markL mkInt h.1 k).2).2).1),
    (markL mkBat h.2.2 (markL mkSpc h.2.1 (markL mkInt h.1 k).2).2).2)
def szH (h : MHou) : Nat := szL (fun _ => 1) h.1 + szL szS h.2.1 + szL szB h.2.2
theorem Qf6 : MkOk mkHou szH where
  go := fun h k => by
    have h1 := Qc9.list.go h.1 k
    have h2 := Qda.list.go h.2.1 (markL mkInt h.1 k).2
    have h3 := Qdb.list.go h.2.2 (markL mkSpc h.2.1 (markL mkInt h.1 k).2).2
    show (markL mkBat h.2.2 (markL mkSpc h.2.1 (markL mkInt h.1 k).2).2).2 = k + ((szL (fun _ => 1) h.1 + szL szS h.2.1 + szL szB h.2.2 : Nat) : Int)
    omega
  idem := fun h k => by
    unfold mkHou
    simp only [Qc9.list.idem, Qda.list.idem, Qdb.list.idem]
theorem Qms {h : MHou} {l : Int} (h1 : l <= 1048576) (h2 : 0 <= siHou h l) : houSm h = true := by
  obtain ⟨g1, e1⟩ := sq_nn h2
  unfold siHou at h2
  rw [e1] at h2
  obtain ⟨g2, e2⟩ := sq_nn h2
  rw [e2] at h2
  obtain ⟨g3, e3⟩ := sq_nn h2
  have k1 := Qcv g1
  have k2 := Qfy (f := szSpc) Qea (P := fun s => s.1.length <= 1048576) (fun s l h1 h2 => Qmj h1 h2) (l := siN h.1.length l) (by omega) g2
  have k2' := Qcr (f := szSpc) (xs := h.2.1) Qea (l := siN h.1.length l) g1
  have k3 := Qfy (f := siBat) Qfd (P := fun b => smB b = true) (fun b l h1 h2 => Qmr h1 h2) (l := szList szSpc h.2.1 (siN h.1.length l)) (by omega) g3
  exact Qa9.2 ⟨by omega, Qbc.2 ⟨Nat.le_trans k2.1 (by decide), fun s hs => Nat.le_trans (k2.2 s hs) (by decide)⟩, Nat.le_trans k3.1 (by decide), k3.2⟩
theorem Qol {h : MHou} {l : Int} (h0 : 0 <= l) (h1 : 0 <= siHou h l) : (szH h : Int) <= 10 * (l - siHou h l) := by
  have h2 := h1
  obtain ⟨g1, e1⟩ := sq_nn h2
  unfold siHou at h2
  rw [e1] at h2
  obtain ⟨g2, e2⟩ := sq_nn h2
  rw [e2] at h2
  obtain ⟨g3, e3⟩ := sq_nn h2
  have e : siHou h l = _ := e1.trans (e2.trans e3)
  have k1 := Qcv g1
  have k2 := Qfg (f := szSpc) (sz := szS) (xs := h.2.1) Qea Qn1 g1 g2
  have k3 := Qfg (f := siBat) (sz := szB) (xs := h.2.2) Qfd Qok g2 g3
  rw [e]
  unfold szH
  rw [Qbm]
  omega
theorem Qqu {h : MHou} {l : Int} (h0 : 0 <= l) : siHou h l <= l := sq_le h0 fun h1 => sq_le h0 fun h2 => sq_le h0 fun h3 => by
  have k1 := Qcv h1
  have k2 := Qcr (f := szSpc) (xs := h.2.1) Qea h1
  have k3 := Qcr (f := siBat) (xs := h.2.2) Qfd h2
  omega
/-- Same, field by field. -/
theorem Qc3 {s t : Bool} {X : Option (Bool × Unit)} (h : X = some (t, ())) : (bif (bif s then false else true) then (some (false, ())) else X) = some (s && t, ()) := by
  cases s
  · rfl
  · exact h
theorem Qi5 (a b : MHou) : (same a.1 b.1 && (same a.2.1 b.2.1 && (same a.2.2 b.2.2 && true))) = same a b := by
  rw [Bool.and_true, Qao, Qao]
end Go.Vm

set_option linter.unusedVariables false
set_option linter.unusedSimpArgs false
namespace Go.Vm
theorem Qrt {t : MTst} (h : tstOk t = true) : szT t <= 14 := by
  have := Qkl h
  unfold szT
  rw [Qbm]; omega
theorem Qru {b : MBat} (h : batOk b = true) : szB b <= 80 := by
  obtain ⟨⟨_, _, h3, _, h5, h6, _, h8⟩, _⟩ := Qa2.1 h
  have h1 := Qix (sz := szT) (c := 14) b.2.2.1 fun t ht => Qrt (List.all_eq_true.1 (Qf1 h5) t ht)
  unfold szB
  rw [Qbm, Qbm]
  have : 14 * b.2.2.1.length <= 14 * 4 := Nat.mul_le_mul_left _ h3.2
  omega
theorem Qrv {s : MSpc} (h : spcOk1 s = true) : szS s <= 25 := by
  unfold spcOk1 at h
  have := Qd2 (Bool.and_eq_true_iff.1 h).1
  unfold szS
  rw [Qbm]; omega
theorem Qrw {h : MHou} (hk : houOk h = true) : szH h <= 475 := by
  obtain ⟨h1, h2, h3, h4⟩ := Qbu.1 hk
  have h1 := (Qhp.1 h1).1
  obtain ⟨g1, g2, _⟩ := Qb7.1 h2
  have k1 := Qix (sz := szS) (c := 25) h.2.1 fun s hs => Qrv (g2 s hs)
  have k2 := Qix (sz := szB) (c := 80) h.2.2 fun b hb => Qru (Qcu.1 (h4 b hb)).1
  unfold szH
  rw [Qbm]
  have : 25 * h.2.1.length <= 25 * 6 := Nat.mul_le_mul_left _ g1
  have : 80 * h.2.2.length <= 80 * 4 := Nat.mul_le_mul_left _ h3
  omega
theorem Qmt (h : MHou) (r : MReq) : houSm (houDo h r).1 = true /\ mkPre szH (houDo h r).1 1 = true := by
  unfold houDo
  cases h1 : houOk h
  · exact ⟨rfl, rfl⟩
  · cases h2 : reqOk r
    · exact ⟨rfl, rfl⟩
    · have h3 : houOk (houGo h r).1 = true := Qqt h1 h2
      have := Qrw h3
      exact ⟨Ql2 h3, Qai.2 ⟨by decide, by show (1 : Int) + ((szH (houGo h r).1 : Nat) : Int) <= _; omega⟩⟩
end Go.Vm
