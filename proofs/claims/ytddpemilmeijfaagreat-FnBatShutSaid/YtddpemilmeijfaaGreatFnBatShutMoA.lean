/- What the functions are, in plain Lean, part 1. No condition. -/
import Derived.Test.YtddpemilmeijfaaGreatFnBatShutVmC
set_option linter.unusedVariables false
set_option linter.unusedSimpArgs false
namespace Go.Vm
theorem Qec {α : Type} (c : Bool) (a b : α) : (bif c then some a else some b) = some (bif c then a else b) := by cases c <;> rfl
theorem Qed {α β : Type} (c : Bool) (a b : α) (z : β) : (bif c then (a, z) else (b, z)) = ((bif c then a else b), z) := by cases c <;> rfl
theorem Qdx (c : Bool) : (bif c then false else true) = !c := by cases c <;> rfl
theorem Qfh (a b : Bool) : (bif a then b else false) = (a && b) := by cases a <;> rfl
theorem Qo0 {α : Type} (c : Bool) (a b : α) : (bif !c then a else b) = (bif c then b else a) := by cases c <;> rfl
theorem Qai {i n : Nat} (h : i < n) : (bif decide ((0 : Int) <= (i : Int)) then decide ((i : Int) < (n : Int)) else false) = true := by
 rw [show decide ((0 : Int) <= (i : Int)) = true from decide_eq_true (by omega)]
 exact decide_eq_true (by omega)
theorem Qal {i n : Nat} (h : i < n) : decide ((i : Int) < (n : Int)) = true := decide_eq_true (by omega)
theorem Qaj {i n : Nat} (h : n <= i) : decide ((i : Int) < (n : Int)) = false := decide_eq_false (by omega)
theorem Qan {i : Nat} (h : i <= 4294967296) : w64 ((i : Int) + (1 : Int)) = ((i + 1 : Nat) : Int) := by
 rw [Qak (by omega) (by omega)]; omega
theorem Qag {S : Sh} {xs r : List S.den} {x : S.den} {i : Nat} (h : xs.drop i = x :: r) : rdL (e := S) xs (i : Int) = x := by
 have h1 : xs[i]? = some x := by
  have := congrArg List.head? h
  rwa [List.head?_drop] at this
 unfold rdL
 rw [Int.toNat_natCast, List.getD_eq_getElem?_getD, h1]; rfl
theorem Qun {S : Sh} {xs : List S.den} {i : Nat} (h : i < xs.length) : rdL (e := S) xs (i : Int) = xs[i] := by
 unfold rdL
 rw [Int.toNat_natCast, List.getD_eq_getElem?_getD, List.getElem?_eq_getElem h]; rfl
theorem Qrh {α : Type} {xs r : List α} {x : α} {i : Nat} (h : xs.drop i = x :: r) : xs.drop (i + 1) = r := by
 have : xs.drop (i + 1) = (xs.drop i).drop 1 := by rw [List.drop_drop]
 rw [this, h]; rfl
theorem Qa9 {α σ β : Type} (xs : List α) (F : Nat -> Nat -> σ -> Option β) (G : List α -> Nat -> σ -> β) (Inv : Nat -> σ -> Prop)
  (hend : ∀ k s, Inv xs.length s -> F (k + 1) xs.length s = some (G [] xs.length s))
  (hstep : ∀ k i x r s, xs.drop i = x :: r -> i < xs.length -> Inv i s ->
   F (k + 1) i s = some (G (x :: r) i s) ∨ ∃ s', Inv (i + 1) s' /\ F (k + 1) i s = F k (i + 1) s' /\ G (x :: r) i s = G r (i + 1) s') :
  ∀ (m i : Nat) (s : σ), i + m = xs.length -> Inv i s -> F (m + 1) i s = some (G (xs.drop i) i s)
 | 0, i, s, h, hi => by
  have : i = xs.length := by omega
  subst this
  rw [List.drop_length]; exact hend 0 s hi
 | m + 1, i, s, h, hi => by
  have hlt : i < xs.length := by omega
  have hd := List.drop_eq_getElem_cons hlt
  rcases hstep (m + 1) i _ _ s hd hlt hi with h1 | ⟨s', h1, h2, h3⟩
  ·rw [h1, hd]
  ·rw [h2, hd, h3]
   exact Qa9 xs F G Inv hend hstep m (i + 1) s' (by omega) h1
theorem Qg8 {σ β : Type} (n : Nat) (F : Nat -> Nat -> σ -> Option β) (G : Nat -> σ -> β) (Inv : Nat -> σ -> Prop)
  (hend : ∀ k s, Inv n s -> F (k + 1) n s = some (G n s))
  (hstep : ∀ k i s, i < n -> Inv i s -> F (k + 1) i s = some (G i s) ∨ ∃ s', Inv (i + 1) s' /\ F (k + 1) i s = F k (i + 1) s' /\ G i s = G (i + 1) s') :
  ∀ (m i : Nat) (s : σ), i + m = n -> Inv i s -> F (m + 1) i s = some (G i s)
 | 0, i, s, h, hi => by
  have : i = n := by omega
  subst this; exact hend 0 s hi
 | m + 1, i, s, h, hi => by
  rcases hstep (m + 1) i s (by omega) hi with h1 | ⟨s', h1, h2, h3⟩
  ·exact h1
  ·rw [h2, h3]; exact Qg8 n F G Inv hend hstep m (i + 1) s' (by omega) h1
end Go.Vm

set_option linter.unusedVariables false
set_option linter.unusedSimpArgs false
namespace Go.Vm
abbrev MDec : Type := Int × Int
abbrev MAsk : Type := Int × MDec × MDec × Int
abbrev MSpc : Type := List MAsk × Int
abbrev MTst : Type := MAsk × Int × MDec × Int × List MDec
abbrev MSig : Type := Int × Int × Int
abbrev MBat : Type := Int × Int × List MTst × Int × List MSig × List Bool
abbrev MHou : Type := List Int × List MSpc × List MBat
abbrev MReq : Type := Int × Int × Int × Int × Int × MDec × List MAsk
def inq (n lo hi : Int) : Bool := decide (lo <= n) && decide (n <= hi)
theorem Qar {n lo hi : Int} : inq n lo hi = true ↔ lo <= n /\ n <= hi := by simp [inq]
def pw (n : Int) : Int := 10 ^ n.toNat
theorem Qft (n : Int) : 0 < pw n := by unfold pw; exact Int.pow_pos (by decide)
theorem pw_le {n : Int} (h : n <= 3) : pw n <= 1000 := by
 unfold pw
 by_cases h0 : n < 0
 ·rw [Int.toNat_of_nonpos (by omega)]; decide
 ·have : n = 0 ∨ n = 1 ∨ n = 2 ∨ n = 3 := by omega
  rcases this with rfl | rfl | rfl | rfl <;> decide
def near (n d : Int) : Int := if n < 0 then -((2 * -n + d) / (2 * d)) else (2 * n + d) / (2 * d)
def decOk (d : MDec) : Bool := inq d.2 0 3 && inq d.1 (-9999 * pw d.2) (9999 * pw d.2)
theorem Qf8 {d : MDec} : decOk d = true ↔ (0 <= d.2 /\ d.2 <= 3) /\ -9999 * pw d.2 <= d.1 /\ d.1 <= 9999 * pw d.2 := by
 unfold decOk; rw [Bool.and_eq_true, Qar, Qar]
theorem Qri {d : MDec} (h : decOk d = true) : -9999000 <= d.1 /\ d.1 <= 9999000 := by
 obtain ⟨⟨h1, h2⟩, h3, h4⟩ := Qf8.1 h
 have := pw_le h2
 have := Qft d.2
 omega
def nrPre (n d : Int) : Bool := decide (-1000000000000000 <= n) && decide (n <= 1000000000000000) && (decide (1 <= d) && decide (d <= 1000000000000000))
theorem Qcs {n d : Int} : nrPre n d = true ↔ (-1000000000000000 <= n /\ n <= 1000000000000000) /\ 1 <= d /\ d <= 1000000000000000 := by
 unfold nrPre; simp only [Bool.and_eq_true, decide_eq_true_eq]
def atR (d : MDec) (p : Int) : MDec := if d.2 <= p then (d.1 * pw (p - d.2), p) else (near d.1 (pw (d.2 - p)), p)
def decAt (d : MDec) (p : Int) : MDec := bif decOk d && inq p 0 3 then atR d p else (0, 0)
def cmpI (x y : Int) : Int := if x < y then -1 else if y < x then 1 else 0
def decCmp (a b : MDec) : Int := bif decOk a && decOk b then cmpI (atR a 3).1 (atR b 3).1 else 0
def askOk (t : MAsk) : Bool := inq t.1 1 4 && (decOk t.2.1 && (decOk t.2.2.1 && (decide (decCmp t.2.1 t.2.2.1 <= 0) && inq t.2.2.2 0 3)))
def spcIn (t : MAsk) (v : MDec) : Bool := askOk t && (decOk v && (decide (decCmp t.2.1 (atR v t.2.2.2) <= 0) && decide (decCmp (atR v t.2.2.2) t.2.2.1 <= 0)))
def rises (p : Option Int) (n : Int) : Bool := match p with | none => true | some q => decide (q < n)
def asksOk : Option Int -> List MAsk -> Bool
 | _, [] => true
 | p, t :: r => askOk t && (rises p t.1 && asksOk (some t.1) r)
def testsOk (l : List MAsk) : Bool := inq l.length 1 4 && asksOk none l
end Go.Vm

set_option linter.unusedVariables false
set_option linter.unusedSimpArgs false
namespace Go.Vm
theorem Qg9 {n : Int} (h : n <= 3) : pw n = 1 ∨ pw n = 10 ∨ pw n = 100 ∨ pw n = 1000 := by
 unfold pw
 by_cases h0 : n < 0
 ·rw [Int.toNat_of_nonpos (by omega)]; exact .inl rfl
 ·have : n = 0 ∨ n = 1 ∨ n = 2 ∨ n = 3 := by omega
  rcases this with rfl | rfl | rfl | rfl
  ·exact .inl rfl
  ·exact .inr (.inl rfl)
  ·exact .inr (.inr (.inl rfl))
  ·exact .inr (.inr (.inr rfl))
theorem p_decOk (d : MDec) : (bif inq d.2 0 3 then (bif decide (d.2 <= 18) then (bif decide (d.2 <= 18) then some (inq d.1 (w64 ((-9999 : Int) * pw d.2)) (w64 ((9999 : Int) * pw d.2)), ()) else none) else none) else some (false, ())) = some (decOk d, ()) := by
 unfold decOk
 cases h : inq d.2 0 3
 ·rfl
 ·obtain ⟨h1, h2⟩ := Qar.1 h
  have h3 := pw_le h2
  have h4 := Qft d.2
  rw [decide_eq_true (show d.2 <= 18 by omega), Qak (by omega) (by omega), Qak (by omega) (by omega)]
  rfl
theorem p_atR {d : MDec} {p : Int} (hd : decOk d = true) (hp : inq p 0 3 = true) :
  (bif decide (d.2 <= p) then (bif decide (w64 (p - d.2) <= 18) then some ((w64 (d.1 * pw (w64 (p - d.2))), p), ()) else none) else (bif decide (w64 (d.2 - p) <= 18) then (bif nrPre d.1 (pw (w64 (d.2 - p))) then some ((near d.1 (pw (w64 (d.2 - p))), p), ()) else none) else none)) = some (atR d p, ()) := by
 obtain ⟨⟨h1, h2⟩, h3, h4⟩ := Qf8.1 hd
 obtain ⟨h5, h6⟩ := Qar.1 hp
 obtain ⟨b1, b2⟩ := Qri hd
 rw [Qak (x := p - d.2) (by omega) (by omega), Qak (x := d.2 - p) (by omega) (by omega), decide_eq_true (show p - d.2 <= 18 by omega), decide_eq_true (show d.2 - p <= 18 by omega)]
 unfold atR
 by_cases h : d.2 <= p
 ·rw [decide_eq_true h, if_pos h, Qak]
  ·rfl
  ·rcases Qg9 (n := p - d.2) (by omega) with e | e | e | e <;> rw [e] <;> omega
  ·rcases Qg9 (n := p - d.2) (by omega) with e | e | e | e <;> rw [e] <;> omega
 ·rw [decide_eq_false h, if_neg h]
  have : nrPre d.1 (pw (d.2 - p)) = true := Qcs.2 ⟨⟨by omega, by omega⟩, by have := Qft (d.2 - p); omega, by have := pw_le (n := d.2 - p) (by omega); omega⟩
  rw [this]; rfl
theorem p_decAt (d : MDec) (p : Int) (z : Option (MDec × Unit)) (hz : decOk d = true -> inq p 0 3 = true -> z = some (atR d p, ())) :
  (bif (bif decOk d then false else true) then some (((0 : Int), (0 : Int)), ()) else (bif (bif inq p 0 3 then false else true) then some (((0 : Int), (0 : Int)), ()) else z)) = some (decAt d p, ()) := by
 unfold decAt
 cases h1 : decOk d
 ·rfl
 ·cases h2 : inq p 0 3
  ·rfl
  ·exact hz h1 h2
theorem p_decCmp (a b : MDec) (z : Option (Int × Unit)) (hz : decOk a = true -> decOk b = true -> z = some (cmpI (atR a 3).1 (atR b 3).1, ())) :
  (bif (bif decOk a then false else true) then some ((0 : Int), ()) else (bif (bif decOk b then false else true) then some ((0 : Int), ()) else z)) = some (decCmp a b, ()) := by
 unfold decCmp
 cases h1 : decOk a
 ·rfl
 ·cases h2 : decOk b
  ·rfl
  ·exact hz h1 h2
theorem p_cmpI (x y : Int) : (bif decide (x < y) then some ((-1 : Int), ()) else (bif decide (y < x) then some ((1 : Int), ()) else some ((0 : Int), ()))) = some (cmpI x y, ()) := by
 unfold cmpI
 by_cases h : x < y
 ·rw [decide_eq_true h, if_pos h]; rfl
 ·rw [decide_eq_false h, if_neg h]
  by_cases h2 : y < x
  ·rw [decide_eq_true h2, if_pos h2]; rfl
  ·rw [decide_eq_false h2, if_neg h2]; rfl
theorem in03 : inq (3 : Int) 0 3 = true := rfl
theorem Qjw {t : MAsk} (h : askOk t = true) : inq t.2.2.2 0 3 = true := by
 unfold askOk at h
 simp only [Bool.and_eq_true] at h
 exact h.2.2.2.2
theorem p_spcIn (t : MAsk) (v : MDec) (z : Option (Bool × Unit)) (hz : askOk t = true -> decOk v = true -> z = some (decide (decCmp t.2.1 (atR v t.2.2.2) <= 0) && decide (decCmp (atR v t.2.2.2) t.2.2.1 <= 0), ())) :
  (bif (bif askOk t then false else true) then some (false, ()) else (bif (bif decOk v then false else true) then some (false, ()) else z)) = some (spcIn t v, ()) := by
 unfold spcIn
 cases h1 : askOk t
 ·rfl
 ·cases h2 : decOk v
  ·rfl
  ·exact hz h1 h2
end Go.Vm

set_option linter.unusedVariables false
set_option linter.unusedSimpArgs false
namespace Go.Vm
open Classical in
noncomputable def same {α : Type} (a b : α) : Bool := decide (a = b)
theorem Qbm {α : Type} {a b : α} : same a b = true ↔ a = b := by unfold same; simp
theorem Qaw {α : Type} (a : α) : same a a = true := Qbm.2 rfl
theorem Qcm {α : Type} {a b : α} (h : a ≠ b) : same a b = false := by unfold same; simp [h]
theorem Qcw (a b : Int) : decide (a = b) = same a b := by unfold same; congr
theorem Qa8 {α β : Type} (a a' : α) (b b' : β) : (same a a' && same b b') = same (a, b) (a', b') := by
 rw [Bool.eq_iff_iff, Bool.and_eq_true, Qbm, Qbm, Qbm, Prod.mk.injEq]
theorem Qty {α : Type} (xs ys : List α) (hl : xs.length = ys.length) (F : Nat -> Nat -> Option (Bool × Unit)) (hend : ∀ k, F (k + 1) xs.length = some (true, ()))
  (hstep : ∀ k i x y r r', xs.drop i = x :: r -> ys.drop i = y :: r' -> i < xs.length -> i < ys.length -> F (k + 1) i = bif same x y then F k (i + 1) else some (false, ())) : F (xs.length + 1) 0 = some (same xs ys, ()) := by
 have := Qa9 (σ := Unit) xs (fun k i _ => F k i) (fun l i _ => (same l (ys.drop i), ())) (fun _ _ => True) (fun k s _ => by
  rw [hend, hl, List.drop_length, Qaw]) (fun k i x r s hd hi _ => by
  have hd' := List.drop_eq_getElem_cons (show i < ys.length by omega)
  have h := hstep k i x _ r _ hd hd' hi (by omega)
  by_cases hs : same x ys[i] = true
  ·refine .inr ⟨(), trivial, by show F (k + 1) i = _; rw [h, hs]; rfl, ?_⟩
   rw [hd']
   have : same (x :: r) (ys[i] :: ys.drop (i + 1)) = same r (ys.drop (i + 1)) := by
    rw [Bool.eq_iff_iff, Qbm, Qbm, List.cons.injEq]
    exact ⟨fun h => h.2, fun h' => ⟨Qbm.1 hs, h'⟩⟩
   rw [this]
  ·refine .inl ?_
   show F (k + 1) i = _
   rw [h, Bool.eq_false_iff.2 hs, hd']
   have : same (x :: r) (ys[i] :: ys.drop (i + 1)) = false := Qcm fun e => hs (Qbm.2 (List.cons.inj e).1)
   rw [this]; rfl) xs.length 0 () (by omega) trivial
 simpa using this
theorem Qs0 {α β : Type} (xs : List α) (f : α -> β) (F : Nat -> Nat -> List β -> Option (List β × Unit)) (hend : ∀ k out, F (k + 1) xs.length out = some (out, ()))
  (hstep : ∀ k i x r out, xs.drop i = x :: r -> i < xs.length -> out.length = i -> F (k + 1) i out = F k (i + 1) (out ++ [f x])) : F (xs.length + 1) 0 [] = some (xs.map f, ()) := by
 have := Qa9 (σ := List β) xs F (fun l i out => (out ++ l.map f, ())) (fun i out => out.length = i) (fun k s hs => by
  rw [hend k s]; simp) (fun k i x r s hd hi hs => .inr ⟨s ++ [f x], by simp [hs], hstep k i x r s hd hi hs, by simp⟩) xs.length 0 [] (by omega) rfl
 simpa using this
def idxOf {α : Type} (p : α -> Bool) : List α -> Nat -> Int
 | [], _ => -1
 | x :: r, i => bif p x then (i : Int) else idxOf p r (i + 1)
theorem Qc6 {α : Type} (xs : List α) (p : α -> Bool) (F : Nat -> Nat -> Option (Int × Unit)) (hend : ∀ k, F (k + 1) xs.length = some (-1, ()))
  (hstep : ∀ k i x r, xs.drop i = x :: r -> i < xs.length -> F (k + 1) i = bif p x then some ((i : Int), ()) else F k (i + 1)) : F (xs.length + 1) 0 = some (idxOf p xs 0, ()) := by
 have := Qa9 (σ := Unit) xs (fun k i _ => F k i) (fun l i _ => (idxOf p l i, ())) (fun _ _ => True) (fun k s _ => hend k) (fun k i x r s hd hi _ => by
  have h := hstep k i x r hd hi
  cases hp : p x
  ·exact .inr ⟨(), trivial, by show F (k + 1) i = _; rw [h, hp]; rfl, by simp [idxOf, hp]⟩
  ·exact .inl (by show F (k + 1) i = _; rw [h, hp]; simp [idxOf, hp])) xs.length 0 () (by omega) trivial
 simpa using this
theorem Qne {α : Type} (xs : List α) (p : α -> Bool) (z : Bool) (F : Nat -> Nat -> Option (Bool × Unit)) (hend : ∀ k, F (k + 1) xs.length = some (z, ()))
  (hstep : ∀ k i x r, xs.drop i = x :: r -> i < xs.length -> F (k + 1) i = bif p x then F k (i + 1) else some (false, ())) : F (xs.length + 1) 0 = some (xs.all p && z, ()) := by
 have := Qa9 (σ := Unit) xs (fun k i _ => F k i) (fun l i _ => (l.all p && z, ())) (fun _ _ => True) (fun k s _ => by rw [hend k]; simp) (fun k i x r s hd hi _ => by
  have h := hstep k i x r hd hi
  cases hp : p x
  ·exact .inl (by show F (k + 1) i = _; rw [h, hp]; simp [hp])
  ·exact .inr ⟨(), trivial, by show F (k + 1) i = _; rw [h, hp]; rfl, by simp [hp]⟩) xs.length 0 () (by omega) trivial
 simpa using this
def prev (xs : List MAsk) (i : Nat) : Option Int := if i = 0 then none else (xs[i - 1]?).map (·.1)
theorem Qlz (xs : List MAsk) : prev xs 0 = none := rfl
theorem Qrj {xs r : List MAsk} {x : MAsk} {i : Nat} (h : xs.drop i = x :: r) : prev xs (i + 1) = some x.1 := by
 have h1 : xs[i]? = some x := by
  have := congrArg List.head? h
  rwa [List.head?_drop] at this
 unfold prev
 rw [if_neg (by omega), Nat.add_sub_cancel, h1]; rfl
theorem Qrk (xs : List MAsk) (hx : xs.length <= 4294967296) (z : Bool) (F : Nat -> Nat -> Option (Bool × Unit)) (hend : ∀ k, F (k + 1) xs.length = some (z, ()))
  (hstep : ∀ k i x r, xs.drop i = x :: r -> i < xs.length -> F (k + 1) i = bif (askOk x && rises (prev xs i) x.1) then F k (i + 1) else some (false, ())) :
  F (xs.length + 1) 0 = some (asksOk none xs && z, ()) := by
 have := Qa9 (σ := Unit) xs (fun k i _ => F k i) (fun l i _ => (asksOk (prev xs i) l && z, ())) (fun _ _ => True) (fun k s _ => by rw [hend k]; simp [asksOk]) (fun k i x r s hd hi _ => by
  have h := hstep k i x r hd hi
  cases hp : (askOk x && rises (prev xs i) x.1)
  ·refine .inl ?_
   show F (k + 1) i = _
   rw [h, hp]
   simp only [cond_false, asksOk, <- Bool.and_assoc]
   rw [hp]; rfl
  ·refine .inr ⟨(), trivial, by show F (k + 1) i = _; rw [h, hp]; rfl, ?_⟩
   simp only [asksOk, Qrj hd]
   rw [<- Bool.and_assoc (askOk x), hp]; rfl) xs.length 0 () (by omega) trivial
 simpa [Qlz] using this
theorem Qrl {xs r : List MAsk} {x : MAsk} {i : Nat} (hx : xs.length <= 4294967296) (hd : xs.drop i = x :: r) (hi : i < xs.length) (Z : Option (Bool × Unit)) (rd : Int -> MAsk) (hrd : ∀ j : Nat, j < xs.length -> some (rd j) = xs[j]?) :
  (bif (bif askOk (rd (i : Int)) then false else true) then (some (false, ())) else (bif (decide ((0 : Int) < (i : Int))) then (bif (bif (decide ((0 : Int) <= (w64 ((i : Int) - (1 : Int))))) then (decide ((w64 ((i : Int) - (1 : Int))) < ((List.length xs : Int)))) else false) then (bif (decide ((rd (i : Int)).1 <= (rd (w64 ((i : Int) - (1 : Int)))).1)) then (some (false, ())) else Z) else none) else Z)) =
  bif (askOk x && rises (prev xs i) x.1) then Z else some (false, ()) := by
 have h1 : xs[i]? = some x := by
  have := congrArg List.head? hd
  rwa [List.head?_drop] at this
 have e1 : rd (i : Int) = x := by have := hrd i hi; rw [h1] at this; exact Option.some.inj this
 rw [e1]
 cases ha : askOk x
 ·rfl
 ·by_cases h0 : i = 0
  ·subst h0; rw [Qlz]; rfl
  ·have e2 : w64 ((i : Int) - (1 : Int)) = ((i - 1 : Nat) : Int) := by rw [Qak (by omega) (by omega)]; omega
   rw [e2, Qai (show i - 1 < xs.length by omega), decide_eq_true (show (0 : Int) < (i : Int) by omega)]
   have e3 : prev xs i = some (rd ((i - 1 : Nat) : Int)).1 := by
    unfold prev
    rw [if_neg h0, <- hrd (i - 1) (by omega)]; rfl
   rw [e3]
   simp only [cond_true, cond_false, Bool.true_and, rises]
   by_cases hlt : (rd ((i - 1 : Nat) : Int)).1 < x.1
   ·rw [decide_eq_true hlt, decide_eq_false (by omega)]; rfl
   ·rw [decide_eq_false hlt, decide_eq_true (by omega)]; rfl
theorem Qle {S : Sh} {xs : List S.den} (j : Nat) (hj : j < xs.length) : some (rdL (e := S) xs (j : Int)) = xs[j]? := by
 rw [Qun hj, List.getElem?_eq_getElem hj]
end Go.Vm

set_option linter.unusedVariables false
set_option linter.unusedSimpArgs false
namespace Go.Vm
def force : List MSpc -> Int
 | [] => 0
 | s :: r => (if s.2 = 2 then 1 else 0) + force r
theorem Qfu : ∀ (l : List MSpc), 0 <= force l
 | [] => Int.le_refl _
 | s :: r => by unfold force; have := Qfu r; split <;> omega
def spcOk1 (s : MSpc) : Bool := testsOk s.1 && inq s.2 1 3
def spcsOk (l : List MSpc) : Bool := decide (l.length <= 6) && (l.all spcOk1 && decide (force l <= 1))
def smA (l : List MAsk) : Bool := decide (l.length <= 4294967296)
def smS (l : List MSpc) : Bool := decide (l.length <= 4294967296) && l.all (fun s => smA s.1)
theorem Qee {l : List MSpc} : smS l = true ↔ l.length <= 4294967296 /\ ∀ s ∈ l, s.1.length <= 4294967296 := by
 unfold smS smA; simp
theorem Qrm (xs : List MSpc) (hx : xs.length <= 4294967296) (z : Int -> Bool) (F : Nat -> Nat -> Int -> Option (Bool × Unit)) (hend : ∀ k c, F (k + 1) xs.length c = some (z c, ()))
  (hstep : ∀ (k i : Nat) (x : MSpc) (r : List MSpc) (c : Int), xs.drop i = x :: r -> i < xs.length -> 0 <= c -> c <= (i : Int) -> F (k + 1) i c = bif spcOk1 x then (bif decide (x.2 = (2 : Int)) then F k (i + 1) (c + 1) else F k (i + 1) c) else some (false, ())) :
  F (xs.length + 1) 0 0 = some (xs.all spcOk1 && z (force xs), ()) := by
 have := Qa9 (σ := Int) xs F (fun l i c => (l.all spcOk1 && z (c + force l), ())) (fun i c => 0 <= c /\ c <= (i : Int)) (fun k c _ => by rw [hend k]; simp [force]) (fun k i x r c hd hi hc => by
  have h := hstep k i x r c hd hi hc.1 hc.2
  cases hp : spcOk1 x
  ·exact .inl (by rw [h, hp]; simp [hp])
  ·refine .inr ?_
   by_cases h2 : x.2 = 2
   ·refine ⟨c + 1, ⟨by omega, by omega⟩, by rw [h, hp, decide_eq_true h2]; rfl, ?_⟩
    simp only [List.all_cons, hp, Bool.true_and, force, if_pos h2, Int.add_assoc]
   ·refine ⟨c, ⟨by omega, by omega⟩, by rw [h, hp, decide_eq_false h2]; rfl, ?_⟩
    simp only [List.all_cons, hp, Bool.true_and, force, if_neg h2, Int.zero_add]) xs.length 0 0 (by omega) ⟨by omega, by omega⟩
 simpa using this
theorem Qce {α : Type} {xs r : List α} {x : α} {i : Nat} (h : xs.drop i = x :: r) : x ∈ xs := List.mem_of_mem_drop (h ▸ List.mem_cons_self)
end Go.Vm

set_option linter.unusedVariables false
set_option linter.unusedSimpArgs false
namespace Go.Vm
theorem Qc7 {α : Type} (p : α -> Bool) : ∀ (l : List α) (i : Nat), decide ((0 : Int) <= idxOf p l i) = l.any p
 | [], i => rfl
 | x :: r, i => by
  unfold idxOf
  cases hp : p x
  ·simp only [cond_false, List.any_cons, hp, Bool.false_or]; exact Qc7 p r (i + 1)
  ·simp [hp]
theorem Qdl {α : Type} (p : α -> Bool) (l : List α) : (!(l.any fun x => !p x)) = l.all p := by
 induction l with
 | nil => rfl
 | cons x r ih => simp only [List.any_cons, List.all_cons, <- ih]; cases p x <;> simp
def need (c : Int) : Int := if c = 1 then 1 else if c = 2 then 2 else 0
theorem Qo1 (c : Int) : need c <= 2 := by unfold need; split <;> (try split) <;> omega
def sum3 : List MDec -> Int
 | [] => 0
 | d :: r => (atR d 3).1 + sum3 r
theorem Qh9 {d : MDec} (h : decOk d = true) : -9999000 <= (atR d 3).1 /\ (atR d 3).1 <= 9999000 := by
 obtain ⟨⟨h1, h2⟩, h3, h4⟩ := Qf8.1 h
 unfold atR
 rw [if_pos h2]
 show -9999000 <= d.1 * pw (3 - d.2) /\ d.1 * pw (3 - d.2) <= 9999000
 have : d.2 = 0 ∨ d.2 = 1 ∨ d.2 = 2 ∨ d.2 = 3 := by omega
 have p0 : pw 0 = 1 := rfl
 have p1 : pw 1 = 10 := rfl
 have p2 : pw 2 = 100 := rfl
 have p3 : pw 3 = 1000 := rfl
 rcases this with e | e | e | e <;> rw [e] at h3 h4 ⊢ <;> simp only [p0, p1, p2, p3, show (3 - 0 : Int) = 3 by omega, show (3 - 1 : Int) = 2 by omega, show (3 - 2 : Int) = 1 by omega, show (3 - 3 : Int) = 0 by omega] at h3 h4 ⊢ <;> omega
def decMean (l : List MDec) (p : Int) : MDec := bif inq l.length 1 100 && (l.all decOk && inq p 0 3) then (near (sum3 l) ((l.length : Int) * pw (3 - p)), p) else (0, 0)
def tell (t : MTst) : MDec := if t.2.2.2.1 = 1 then decAt (t.2.2.2.2.getD 0 (0, 0)) t.1.2.2.2 else if t.2.2.2.1 = 2 then decMean (t.2.2.1 :: t.2.2.2.2) t.1.2.2.2 else decAt t.2.2.1 t.1.2.2.2
def passes (t : MTst) : Bool := t.2.2.2.2.all (spcIn t.1) && spcIn t.1 (tell t)
def stateOf (t : MTst) : Int := if t.2.2.2.1 = 0 then (if spcIn t.1 t.2.2.1 = true then 3 else 1) else if t.2.2.2.1 = 3 then 4 else if (t.2.2.2.2.length : Int) < need t.2.2.2.1 then 2 else if passes t = true then 3 else 4
def tstOkA (t : MTst) : Bool := askOk t.1 && (decOk t.2.2.1 && (t.2.2.2.2.all decOk && (inq t.2.2.2.1 0 3 && decide ((t.2.2.2.2.length : Int) <= need t.2.2.2.1))))
noncomputable def tstOkB (t : MTst) : Bool := bif decide (t.2.1 = 0) then (same t.2.2.1 (0, 0) && decide (t.2.2.2.1 = 0)) else (decide (t.2.1 = stateOf t) && (decide (t.2.2.2.1 = 0) || !spcIn t.1 t.2.2.1))
noncomputable def tstOk (t : MTst) : Bool := tstOkA t && tstOkB t
def tsPre (t : MTst) : Bool := askOk t.1 && (decOk t.2.2.1 && (t.2.2.2.2.all decOk && decide (t.2.2.2.2.length <= 2)))
def tlPre (t : MTst) : Bool := tsPre t && (!decide (t.2.2.2.1 = 1) || !t.2.2.2.2.isEmpty)
theorem Qcn {t : MTst} : tsPre t = true ↔ askOk t.1 = true /\ decOk t.2.2.1 = true /\ t.2.2.2.2.all decOk = true /\ t.2.2.2.2.length <= 2 := by
 unfold tsPre; simp only [Bool.and_eq_true, decide_eq_true_eq]
theorem Qha {t : MTst} (h : tstOkA t = true) : tsPre t = true := by
 unfold tstOkA at h
 simp only [Bool.and_eq_true, decide_eq_true_eq] at h
 have := Qo1 t.2.2.2.1
 exact Qcn.2 ⟨h.1, h.2.1, h.2.2.1, by have := h.2.2.2.2; omega⟩
theorem Qpw {s b c : Int} (hb : 0 < b) (hc : 0 < c) : near (s * c) (b * c) = near s b := by
 have key : ∀ m : Int, (2 * (m * c) + b * c) / (2 * (b * c)) = (2 * m + b) / (2 * b) := fun m => by
  have e1 : 2 * (m * c) + b * c = (2 * m + b) * c := by rw [Int.add_mul, Int.mul_assoc]
  have e2 : 2 * (b * c) = (2 * b) * c := by rw [Int.mul_assoc]
  rw [e1, e2, Int.mul_ediv_mul_of_pos_left _ _ hc]
 unfold near
 by_cases h : s < 0
 ·have : s * c < 0 := Int.mul_neg_of_neg_of_pos h hc
  rw [if_pos this, if_pos h, <- Int.neg_mul, key]
 ·have : ¬ s * c < 0 := by have := Int.mul_nonneg (show 0 <= s by omega) (show 0 <= c by omega); omega
  rw [if_neg this, if_neg h, key]
theorem Qrn {l : List MDec} {p : Int} (h1 : inq l.length 1 100 = true) (h2 : inq p 0 3 = true) : near (sum3 l * pw p) ((l.length : Int) * pw 3) = near (sum3 l) ((l.length : Int) * pw (3 - p)) := by
 obtain ⟨h3, h4⟩ := Qar.1 h1
 obtain ⟨h5, h6⟩ := Qar.1 h2
 have e : pw 3 = pw (3 - p) * pw p := by
  have : p = 0 ∨ p = 1 ∨ p = 2 ∨ p = 3 := by omega
  rcases this with rfl | rfl | rfl | rfl <;> rfl
 rw [e, <- Int.mul_assoc]
 exact Qpw (Int.mul_pos (by omega) (Qft _)) (Qft _)
theorem Qnf (xs : List MDec) (hx : xs.length <= 100) (z : Int -> MDec) (F : Nat -> Nat -> Int -> Option (MDec × Unit)) (hend : ∀ k c, -999900000 <= c -> c <= 999900000 -> F (k + 1) xs.length c = some (z c, ()))
  (hstep : ∀ (k i : Nat) (x : MDec) (r : List MDec) (c : Int), xs.drop i = x :: r -> i < xs.length -> -999900000 <= c -> c <= 999900000 -> F (k + 1) i c = bif decOk x then F k (i + 1) (c + (atR x 3).1) else some ((0, 0), ())) :
  F (xs.length + 1) 0 0 = some (bif xs.all decOk then z (sum3 xs) else (0, 0), ()) := by
 have := Qa9 (σ := Int) xs F (fun l i c => (bif l.all decOk then z (c + sum3 l) else (0, 0), ())) (fun i c => -9999000 * (i : Int) <= c /\ c <= 9999000 * (i : Int) /\ i <= 100) (fun k c hc => by rw [hend k c (by omega) (by omega)]; simp [sum3]) (fun k i x r c hd hi hc => by
  have h := hstep k i x r c hd hi (by omega) (by omega)
  cases hp : decOk x
  ·exact .inl (by rw [h, hp]; simp [hp])
  ·refine .inr ⟨c + (atR x 3).1, ?_, by rw [h, hp]; rfl, ?_⟩
   ·have := Qh9 hp; omega
   ·simp only [List.all_cons, hp, Bool.true_and, sum3, Int.add_assoc]) xs.length 0 0 (by omega) ⟨by omega, by omega, by omega⟩
 simpa using this
end Go.Vm


set_option linter.unusedVariables false
set_option linter.unusedSimpArgs false
namespace Go.Vm
abbrev MRd : Type := List Int × Int
def RdOk (c : Nat) (r : MRd) : Prop := (r.1.length <= 2000 /\ ∀ b ∈ r.1, 0 <= b /\ b <= 255) /\ 0 <= r.2 /\ r.2 + c <= 1000000
instance (c : Nat) (r : MRd) : Decidable (RdOk c r) := by unfold RdOk; infer_instance
def rdB (c : Nat) (r : MRd) : Bool := decide (RdOk c r)
theorem Qas {c : Nat} {r : MRd} : rdB c r = true ↔ RdOk c r := ⟨of_decide_eq_true, decide_eq_true⟩
theorem RdOk.mono {c d : Nat} {r : MRd} (h : RdOk c r) (hd : d <= c) : RdOk d r := ⟨h.1, h.2.1, by have := h.2.2; omega⟩
theorem Qs1 {xs : List Int} (h : ∀ b ∈ xs, 0 <= b /\ b <= 255) (i : Int) : 0 <= rdL (e := .int .u8) xs i /\ rdL (e := .int .u8) xs i <= 255 := by
 unfold rdL
 rw [List.getD_eq_getElem?_getD]
 cases hx : xs[i.toNat]? with
 | none => exact ⟨Int.le_refl _, by decide⟩
 | some b => exact h b (List.mem_of_getElem? hx)
theorem Qpx {x y : Int} (h1 : 0 <= x) (h2 : x < 4611686018427387904) (h3 : 0 <= y) (h4 : y < 4611686018427387904) : 0 <= bits .xor .i64 x y := by
 show 0 <= IntKind.wrap IntKind.i64 _
 have e1 : (BitVec.ofInt IntKind.i64.bits x).toNat = x.toNat := by
  rw [BitVec.toNat_ofInt, show ((2 ^ IntKind.i64.bits : Nat) : Int) = 18446744073709551616 from rfl, Int.emod_eq_of_lt h1 (by omega)]
 have e2 : (BitVec.ofInt IntKind.i64.bits y).toNat = y.toNat := by
  rw [BitVec.toNat_ofInt, show ((2 ^ IntKind.i64.bits : Nat) : Int) = 18446744073709551616 from rfl, Int.emod_eq_of_lt h3 (by omega)]
 rw [BitVec.toNat_xor, e1, e2]
 have h5 : x.toNat ^^^ y.toNat < 2 ^ 62 := Nat.xor_lt_two_pow (by omega) (by omega)
 have : w64 ((x.toNat ^^^ y.toNat : Nat) : Int) = ((x.toNat ^^^ y.toNat : Nat) : Int) := Qak (by omega) (by omega)
 unfold w64 at this
 rw [this]; omega
theorem Qpy {p A B D : Int} (n : Int) (h0 : 0 <= p) (h1 : p <= 1000000) (ha : 0 <= A /\ A <= 255) (hc : 0 <= B /\ B <= 255) (hd : 0 <= D /\ D <= p) :
  0 <= Int.tmod (bits .xor .i64 (w64 (w64 (w64 (w64 (w64 A * 131) + w64 (w64 B * 1117)) + w64 (p * 29)) + w64 (w64 D * 53))) (w64 (Int.tdiv (w64 (w64 (w64 (w64 (w64 A * 131) + w64 (w64 B * 1117)) + w64 (p * 29)) + w64 (w64 D * 53))) 64))) n := by
 refine Int.tmod_nonneg _ ?_
 rw [Qak (x := A) (by omega) (by omega), Qak (x := B) (by omega) (by omega), Qak (x := A * 131) (by omega) (by omega), Qak (x := B * 1117) (by omega) (by omega), Qak (x := D) (by omega) (by omega), Qak (x := D * 53) (by omega) (by omega), Qak (x := p * 29) (by omega) (by omega),
  Qak (x := A * 131 + B * 1117) (by omega) (by omega), Qak (x := A * 131 + B * 1117 + p * 29) (by omega) (by omega), Qak (x := A * 131 + B * 1117 + p * 29 + D * 53) (by omega) (by omega)]
 have hX : 0 <= A * 131 + B * 1117 + p * 29 + D * 53 /\ A * 131 + B * 1117 + p * 29 + D * 53 <= 100000000 := by omega
 generalize A * 131 + B * 1117 + p * 29 + D * 53 = X at hX ⊢
 have hq : 0 <= Int.tdiv X 64 /\ Int.tdiv X 64 <= X := ⟨Int.tdiv_nonneg hX.1 (by omega), by rw [Int.tdiv_eq_ediv_of_nonneg hX.1]; exact Int.ediv_le_self _ hX.1⟩
 rw [Qak (x := Int.tdiv X 64) (by omega) (by omega)]
 exact Qpx hX.1 (by omega) hq.1 (by omega)
theorem Qs2 {A : Int} (n : Int) (ha : 0 <= A /\ A <= 255) : 0 <= Int.tmod (w64 A) n := by
 rw [Qak (by omega) (by omega)]; exact Int.tmod_nonneg _ ha.1
def Step (c : Nat) (r r' : MRd) : Prop := r'.1 = r.1 /\ r.2 <= r'.2 /\ r'.2 <= r.2 + c
theorem Step.refl (r : MRd) : Step 0 r r := ⟨rfl, Int.le_refl _, by omega⟩
theorem Step.mono {c d : Nat} {r s : MRd} (h : Step c r s) (hd : c <= d) : Step d r s := ⟨h.1, h.2.1, by have := h.2.2; omega⟩
theorem Step.trans {c d : Nat} {r s t : MRd} (h : Step c r s) (h2 : Step d s t) : Step (c + d) r t := ⟨h2.1.trans h.1, Int.le_trans h.2.1 h2.2.1, by have := h.2.2; have := h2.2.2; omega⟩
theorem Step.ok {N c d : Nat} {r s : MRd} (h : Step c r s) (h0 : RdOk N r) (hc : c + d <= N) : RdOk d s :=
 ⟨by rw [h.1]; exact h0.1, Int.le_trans h0.2.1 h.2.1, by have := h.2.2; have := h0.2.2; omega⟩
def PickQ (a : Int × Unit) (i : Int) : Prop := 0 <= i /\ (1 <= a.1 -> i < a.1)
theorem Qc4 {i n : Int} {m : Nat} (h : PickQ (n, ()) i) (h1 : 1 <= n) (h3 : n <= (m : Int)) : (bif decide ((0 : Int) <= i) then decide (i < (m : Int)) else false) = true := by
 rw [decide_eq_true h.1]; exact decide_eq_true (Int.lt_of_lt_of_le (h.2 h1) h3)
theorem Qdy {i n m : Int} (h : PickQ (n, ()) i) (h1 : 1 <= n) (h3 : n <= m + 1) : decide (i <= m) = true := decide_eq_true (by have := h.2 h1; have : i < n := this; omega)
theorem Qam {α β A : Type} {g : MRd × A -> α × (MRd × Unit)} {cF : Nat} {Q : A -> α -> Prop} (q : ∀ r a, RdOk cF r -> Step cF r (g (r, a)).2.1 /\ Q a (g (r, a)).1) {N c : Nat} {r0 r : MRd} {a : A} {b : Bool} {F : α × (MRd × Unit) -> Option β} {P : β -> Prop}
  (h0 : RdOk N r0) (hb : b = rdB cF r) (hs : Step c r0 r) (hc : c + cF <= N) (k : ∀ y r', Q a y -> Step (c + cF) r0 r' -> Gets (F (y, (r', ()))) P) : Gets (cl b (g (r, a)) F) P := by
 have hr := hs.ok h0 hc
 refine Qah (hb.trans (Qas.2 hr)) ?_
 obtain ⟨h1, h2⟩ := q r a hr
 exact k _ _ h2 (hs.trans h1)
theorem Qs3 {α β A : Type} {g : A -> α × Unit} {Q : α -> Prop} {a : A} {b : Bool} {F : α × Unit -> Option β} {P : β -> Prop} (hb : b = true) (q : Q (g a).1) (k : ∀ y, Q y -> Gets (F (y, ())) P) : Gets (cl b (g a) F) P := Qah hb (k _ q)
theorem Qc8 {σ β : Type} (F : Nat -> Nat -> σ -> Option β) (P : β -> Prop) (Inv : Nat -> σ -> Prop) (n : Nat) (hend : ∀ k s, Inv n s -> Gets (F (k + 1) n s) P)
  (hstep : ∀ k i s, i < n -> Inv i s -> (∀ s', Inv (i + 1) s' -> Gets (F k (i + 1) s') P) -> Gets (F (k + 1) i s) P) : ∀ m i s, i + m = n -> Inv i s -> Gets (F (m + 1) i s) P
 | 0, i, s, h, hi => by
  have : i = n := by omega
  subst this; exact hend 0 s hi
 | m + 1, i, s, h, hi => hstep (m + 1) i s (by omega) hi fun s' hs' => Qc8 F P Inv n hend hstep m (i + 1) s' (by omega) hs'
def bytesB (xs : List Int) : Bool := xs.all fun b => decide (0 <= b) && decide (b <= 255)
theorem Qhb {xs : List Int} : bytesB xs = true ↔ ∀ b ∈ xs, 0 <= b /\ b <= 255 := by
 unfold bytesB
 rw [List.all_eq_true]
 simp only [Bool.and_eq_true, decide_eq_true_eq]
theorem Qs4 {xs : List Int} (h : ∀ x ∈ xs, Wf (.int .u8) x) : bytesB xs = true := Qhb.2 fun b hb => by
 have h1 : (Lit.int .u8 b).wf = true := h b hb
 simp [Lit.wf, IntKind.min, IntKind.max, IntKind.signed, IntKind.bits] at h1
 omega
theorem Qtz {xs : List Int} (h : bytesB xs = true) : RdOk 1000000 (takeI (α := Int) xs 2000, 0) := by
 refine ⟨⟨?_, fun b hb => Qhb.1 h b (List.mem_of_mem_take hb)⟩, Int.le_refl _, by show (0 : Int) + ((1000000 : Nat) : Int) <= 1000000; decide⟩
 show (List.take (Int.toNat 2000) xs).length <= 2000
 rw [List.length_take]
 exact Nat.min_le_left _ _
theorem Qs5 {xs : List Int} (h : bytesB xs = true) (hl : decide ((2000 : Int) < (xs.length : Int)) = false) : RdOk 1000000 (xs, 0) :=
 ⟨⟨by have := of_decide_eq_false hl; show xs.length <= 2000; omega, Qhb.1 h⟩, Int.le_refl _, by show (0 : Int) + ((1000000 : Nat) : Int) <= 1000000; decide⟩
end Go.Vm

set_option linter.unusedVariables false
set_option linter.unusedSimpArgs false
namespace Go.Vm
theorem places {p : Int} (h : 0 <= p /\ p <= 3) : p = 0 ∨ p = 1 ∨ p = 2 ∨ p = 3 := by omega
theorem Qro {o : Option (Bool × Unit)} (h : Gets o (fun v => v = (true, ()))) : o = some (true, ()) := by obtain ⟨v, h, rfl⟩ := h; exact h
theorem Qrp (a : MAsk) : tstOk (a, 0, (0, 0), 0, []) = askOk a := by
 have h1 : tstOkA (a, 0, (0, 0), 0, []) = askOk a := by
  show (askOk a && true) = _
  rw [Bool.and_true]
 have h2 : tstOkB (a, 0, (0, 0), 0, []) = true := by
  show (same ((0, 0) : MDec) (0, 0) && true) = true
  rw [Qaw]; rfl
 unfold tstOk
 rw [h1, h2, Bool.and_true]
theorem Qia {α : Type} (p : α -> Bool) : ∀ (l : List α) (k : Nat), idxOf p l k = -1 ∨ ((k : Int) <= idxOf p l k /\ idxOf p l k < ((k + l.length : Nat) : Int))
 | [], k => .inl rfl
 | x :: r, k => by
  unfold idxOf
  cases p x
  ·show idxOf p r (k + 1) = -1 ∨ ((k : Int) <= idxOf p r (k + 1) /\ idxOf p r (k + 1) < _)
   rcases Qia p r (k + 1) with h | ⟨h1, h2⟩
   ·exact .inl h
   ·refine .inr ⟨by omega, ?_⟩
    rw [List.length_cons]; omega
  ·show (k : Int) = -1 ∨ ((k : Int) <= (k : Int) /\ (k : Int) < _)
   refine .inr ⟨Int.le_refl _, ?_⟩
   rw [List.length_cons]; omega
theorem Qi8 {α : Type} (p : α -> Bool) (l : List α) : idxOf p l 0 = -1 ∨ (0 <= idxOf p l 0 /\ idxOf p l 0 < l.length) := by
 have := Qia p l 0
 simpa using this
end Go.Vm

set_option linter.unusedVariables false
set_option linter.unusedSimpArgs false
namespace Go.Vm
def spcAdd (l : List MSpc) (t : List MAsk) : List MSpc × Bool := bif spcsOk l && (testsOk t && !decide (l.length = 6)) then (l ++ [(t, 1)], true) else (l, false)
def retire (s : MSpc) : MSpc := bif decide (s.2 = 2) then (s.1, 3) else s
def spcRaise (l : List MSpc) (k : Int) : List MSpc × Bool := bif spcsOk l && (inq k 0 ((l.length : Int) - 1) && decide ((l.getD k.toNat ([], 0)).2 = 1)) then ((l.map retire).set k.toNat ((l.getD k.toNat ([], 0)).1, 2), true) else (l, false)
def spcNow (l : List MSpc) : Int := idxOf (fun s : MSpc => decide (s.2 = 2)) l 0
theorem Qs6 {α β : Type} (xs : List α) (f : α -> α) (Z : List α -> Option β) (F : Nat -> Nat -> List α -> Option β) (hend : ∀ k out, out.length = xs.length -> F (k + 1) xs.length out = Z out)
  (hstep : ∀ k i x r out, out.drop i = x :: r -> i < xs.length -> out.length = xs.length -> F (k + 1) i out = F k (i + 1) (out.set i (f x))) : F (xs.length + 1) 0 xs = Z (xs.map f) := by
 have go : ∀ (m i : Nat) (out : List α), i + m = xs.length -> out = (xs.take i).map f ++ xs.drop i -> F (m + 1) i out = Z (xs.map f) := by
  intro m
  induction m with
  | zero =>
   intro i out h ho
   have : i = xs.length := by omega
   subst this
   rw [List.take_length, List.drop_length, List.append_nil] at ho
   subst ho
   exact hend 0 _ (List.length_map _)
  | succ m ih =>
   intro i out h ho
   have hi : i < xs.length := by omega
   have hl : out.length = xs.length := by rw [ho, List.length_append, List.length_map, List.length_take, List.length_drop]; omega
   have hti : ((xs.take i).map f).length = i := by rw [List.length_map, List.length_take]; omega
   have hd : out.drop i = xs[i] :: xs.drop (i + 1) := by
    rw [ho, List.drop_append_of_le_length (by omega), List.drop_of_length_le (by omega), List.nil_append]
    exact List.drop_eq_getElem_cons hi
   rw [hstep (m + 1) i _ _ out hd hi hl]
   refine ih (i + 1) _ (by omega) ?_
   rw [ho, List.set_append_right _ _ (by omega), hti, Nat.sub_self, List.drop_eq_getElem_cons hi, List.set_cons_zero, List.take_succ_eq_append_getElem hi, List.map_append]
   simp
 exact go xs.length 0 xs (by omega) (by simp)
theorem Qfv {α : Type} {l : List α} {i : Nat} {x : α} (h : l[i]? = some x) : l.set i x = l := by
 apply List.ext_getElem?
 intro j
 rw [List.getElem?_set]
 split
 ·rename_i e; subst e
  have : i < l.length := by
   rcases Nat.lt_or_ge i l.length with h' | h'
   ·exact h'
   ·rw [List.getElem?_eq_none h'] at h; cases h
  rw [if_pos this, h]
 ·rfl
theorem Qd6 (s : MSpc) : (retire s).1 = s.1 := by unfold retire; cases decide (s.2 = 2) <;> rfl
theorem Qob (l : List MSpc) (k : Nat) : ((l.map retire).getD k ([], 0)).1 = (l.getD k ([], 0)).1 := by
 rw [List.getD_eq_getElem?_getD, List.getD_eq_getElem?_getD, List.getElem?_map]
 cases l[k]? with
 | none => rfl
 | some s => exact Qd6 s
theorem Qib : ∀ (l m : List MSpc), force (l ++ m) = force l + force m
 | [], m => by show force m = 0 + force m; omega
 | s :: r, m => by
  show (if s.2 = 2 then 1 else 0) + force (r ++ m) = ((if s.2 = 2 then 1 else 0) + force r) + force m
  rw [Qib r m]; omega
theorem Qco {l : List MSpc} : spcsOk l = true ↔ l.length <= 6 /\ (∀ s ∈ l, spcOk1 s = true) /\ force l <= 1 := by
 unfold spcsOk; simp only [Bool.and_eq_true, decide_eq_true_eq, List.all_eq_true]
theorem Qpz {l : List MSpc} {t : List MAsk} (hs : spcsOk l = true) (ht : testsOk t = true) (h : l.length <= 5) : spcsOk (l ++ [(t, 1)]) = true := by
 obtain ⟨h1, h2, h3⟩ := Qco.1 hs
 refine Qco.2 ⟨by rw [List.length_append]; show l.length + 1 <= 6; omega, fun s hm => ?_, ?_⟩
 ·rcases List.mem_append.1 hm with h4 | h4
  ·exact h2 s h4
  ·have : s = (t, 1) := by simpa using h4
   subst this
   show (testsOk t && inq 1 1 3) = true
   rw [ht]; rfl
 ·rw [Qib, show force [((t, 1) : MSpc)] = 0 from rfl]; omega
theorem Ql0 (s : MSpc) : ¬ (retire s).2 = 2 := by
 unfold retire
 cases h : decide (s.2 = 2)
 ·exact of_decide_eq_false h
 ·show ¬ (3 : Int) = 2
  decide
theorem Qhr : ∀ (l : List MSpc), force (l.map retire) = 0
 | [] => rfl
 | s :: r => by
  show (if (retire s).2 = 2 then 1 else 0) + force (r.map retire) = 0
  rw [if_neg (Ql0 s), Qhr r]; rfl
theorem Qi9 : ∀ (l : List MSpc) (n k : Nat) (t : List MAsk), n < l.length -> idxOf (fun s : MSpc => decide (s.2 = 2)) ((l.map retire).set n (t, 2)) k = ((k + n : Nat) : Int)
 | [], _, _, _, h => by cases h
 | s :: r, 0, k, t, _ => by
  show (bif decide ((2 : Int) = 2) then (k : Int) else _) = _
  rfl
 | s :: r, n + 1, k, t, h => by
  show (bif decide ((retire s).2 = 2) then (k : Int) else idxOf _ ((r.map retire).set n (t, 2)) (k + 1)) = _
  rw [decide_eq_false (Ql0 s), cond_false, Qi9 r n (k + 1) t (by simpa using h)]
  congr 1; omega
theorem Ql1 : ∀ (m : List MSpc) (n : Nat) (t : List MAsk), force m = 0 -> n < m.length -> force (m.set n (t, 2)) = 1
 | [], _, _, _, h => by cases h
 | s :: r, 0, t, h, _ => by
  unfold force at h
  have := Qfu r
  show (if (2 : Int) = 2 then 1 else 0) + force r = 1
  rw [if_pos rfl]
  split at h <;> omega
 | s :: r, n + 1, t, h, hn => by
  unfold force at h
  have := Qfu r
  have h1 : force r = 0 := by split at h <;> omega
  show (if s.2 = 2 then 1 else 0) + force (r.set n (t, 2)) = 1
  rw [Ql1 r n t h1 (by simpa using hn)]
  split at h <;> omega
theorem Qrq {s : MSpc} (h : spcOk1 s = true) : spcOk1 (retire s) = true := by
 unfold spcOk1 at h ⊢
 rw [Qd6]
 unfold retire
 cases h2 : decide (s.2 = 2)
 ·exact h
 ·rw [Bool.and_eq_true] at h
  show (testsOk s.1 && inq 3 1 3) = true
  rw [h.1]; rfl
theorem Qs7 {l : List MSpc} {n : Int} (h : (spcsOk l && (inq n 0 ((l.length : Int) - 1) && decide ((l.getD n.toNat ([], 0)).2 = 1))) = true) :
  let x := (l.map retire).set n.toNat ((l.getD n.toNat ([], 0)).1, 2)
  0 <= n /\ n < l.length /\ (l.getD n.toNat ([], 0)).2 = 1 /\ x.length = l.length /\ spcsOk x = true /\ spcNow x = n /\ spcRaise x n = (x, false)
   /\ (∀ i, (h : i < l.length) -> ∃ s, x[i]? = some s /\ s.1 = l[i].1 /\ ((i : Int) ≠ n -> s.2 ≠ l[i].2 -> l[i].2 = 2 /\ s.2 = 3)) := by
 intro x
 simp only [Bool.and_eq_true, decide_eq_true_eq] at h
 obtain ⟨h1, h2, h3⟩ := h
 obtain ⟨h4, h5⟩ := Qar.1 h2
 have hn : n.toNat < l.length := by omega
 have hx : x.length = l.length := by show (List.set _ _ _).length = _; rw [List.length_set, List.length_map]
 obtain ⟨g1, g2, g3⟩ := Qco.1 h1
 have hg : (l.getD n.toNat ([], 0)) ∈ l := by
  rw [List.getD_eq_getElem?_getD, List.getElem?_eq_getElem hn]; exact List.getElem_mem hn
 have hxn : x.getD n.toNat ([], 0) = ((l.getD n.toNat ([], 0)).1, 2) := by
  show (List.set _ _ _).getD _ _ = _
  rw [List.getD_eq_getElem?_getD, List.getElem?_set_self (by rw [List.length_map]; exact hn)]; rfl
 refine ⟨h4, by omega, h3, hx, ?_, ?_, ?_, fun i hi => ?_⟩
 ·refine Qco.2 ⟨by rw [hx]; exact g1, fun s hs => ?_, by rw [Ql1 _ _ _ (Qhr l) (by rw [List.length_map]; exact hn)]; decide⟩
  rcases List.mem_or_eq_of_mem_set hs with h6 | rfl
  ·obtain ⟨y, hy, rfl⟩ := List.mem_map.1 h6
   exact Qrq (g2 y hy)
  ·have h7 := g2 _ hg
   unfold spcOk1 at h7
   rw [Bool.and_eq_true] at h7
   show (testsOk (l.getD n.toNat ([], 0)).1 && inq 2 1 3) = true
   rw [h7.1]; rfl
 ·show idxOf _ (List.set _ _ _) 0 = n
  rw [Qi9 l n.toNat 0 _ hn]; omega
 ·unfold spcRaise
  rw [hxn]
  show (bif _ && (_ && decide ((2 : Int) = 1)) then _ else _) = _
  rw [show decide ((2 : Int) = 1) = false from rfl, Bool.and_false, Bool.and_false]; rfl
 ·by_cases he : i = n.toNat
  ·subst he
   refine ⟨_, List.getElem?_set_self (by rw [List.length_map]; exact hn), ?_, fun h => absurd (by omega) h⟩
   show (l.getD n.toNat ([], 0)).1 = _
   rw [List.getD_eq_getElem?_getD, List.getElem?_eq_getElem hn]; rfl
  ·refine ⟨retire l[i], by show (List.set _ _ _)[i]? = _; rw [List.getElem?_set_ne (by omega), List.getElem?_map, List.getElem?_eq_getElem hi]; rfl, Qd6 _, fun _ hne => ?_⟩
   unfold retire at hne ⊢
   cases h6 : decide (l[i].2 = 2)
   ·rw [h6] at hne; exact absurd rfl hne
   ·exact ⟨of_decide_eq_true h6, rfl⟩
def SpI (i : Nat) (l : List MSpc) : Prop := l.length <= i /\ ∀ s ∈ l, s.1.length <= 5
def SpQ (l : List MSpc) : Prop := SpI 4 l
theorem SpI.nil : SpI 0 [] := ⟨Nat.le_refl _, fun _ h => by cases h⟩
theorem SpI.mono {i : Nat} {l : List MSpc} (h : SpI i l) : SpI (i + 1) l := ⟨by have := h.1; omega, h.2⟩
theorem SpI.q {i : Nat} {l : List MSpc} (h : SpI i l) (hi : i <= 4) : SpQ l := ⟨by have := h.1; omega, h.2⟩
theorem SpI.sm {i : Nat} {l : List MSpc} (h : SpI i l) (hi : i <= 4294967296) : smS l = true := Qee.2 ⟨by have := h.1; omega, fun s hs => by have := h.2 s hs; omega⟩
theorem SpQ.sm {l : List MSpc} (h : SpQ l) : smS l = true := SpI.sm h (by decide)
theorem SpI.set {i : Nat} {l : List MSpc} (h : SpI i l) (k : Nat) (s : MSpc) (hs : s.1.length <= 5) : SpI i (l.set k s) := ⟨by rw [List.length_set]; exact h.1, fun y hy => by
 rcases List.mem_or_eq_of_mem_set hy with h1 | rfl
 ·exact h.2 y h1
 ·exact hs⟩
theorem SpI.getD {i : Nat} {l : List MSpc} (h : SpI i l) (k : Nat) : (l.getD k ([], 0)).1.length <= 5 := by
 rw [List.getD_eq_getElem?_getD]
 cases hk : l[k]? with
 | none => exact Nat.zero_le _
 | some s => exact h.2 s (List.mem_of_getElem? hk)
theorem SpI.retire {i : Nat} {l : List MSpc} (h : SpI i l) : SpI i (l.map retire) := ⟨by rw [List.length_map]; exact h.1, fun y hy => by
 obtain ⟨s, hs, rfl⟩ := List.mem_map.1 hy
 rw [Qd6]; exact h.2 s hs⟩
theorem SpI.raise {i : Nat} {l : List MSpc} (h : SpI i l) (k : Int) : SpI i (spcRaise l k).1 := by
 unfold spcRaise
 cases (spcsOk l && (inq k 0 ((l.length : Int) - 1) && decide ((l.getD k.toNat ([], 0)).2 = 1)))
 ·exact h
 ·exact h.retire.set _ _ (h.getD _)
end Go.Vm

set_option linter.unusedVariables false
set_option linter.unusedSimpArgs false
namespace Go.Vm
def markL {α : Type} (mk : α -> Int -> α × Int) : List α -> Int -> List α × Int
 | [], k => ([], k)
 | x :: r, k => ((mk x k).1 :: (markL mk r (mk x k).2).1, (markL mk r (mk x k).2).2)
noncomputable def hdOf {α : Type} (mk : α -> Int -> α × Int) (x : α) (k : Int) : Int := bif same x (mk x k).1 then (mk x k).2 else -1
structure MkOk {α : Type} (mk : α -> Int -> α × Int) (sz : α -> Nat) : Prop where
 go : ∀ x k, (mk x k).2 = k + sz x
 idem : ∀ x k, mk (mk x k).1 k = mk x k
def szL {α : Type} (sz : α -> Nat) : List α -> Nat
 | [] => 0
 | x :: r => sz x + szL sz r
theorem MkOk.list {α : Type} {mk : α -> Int -> α × Int} {sz : α -> Nat} (h : MkOk mk sz) : MkOk (markL mk) (szL sz) where
 go := fun l => by
  induction l with
  | nil => intro k; show k = k + ((0 : Nat) : Int); omega
  | cons x r ih =>
   intro k
   show (markL mk r (mk x k).2).2 = k + ((sz x + szL sz r : Nat) : Int)
   rw [ih, h.go]; omega
 idem := fun l => by
  induction l with
  | nil => intro k; rfl
  | cons x r ih =>
   intro k
   show ((mk (mk x k).1 k).1 :: (markL mk (markL mk r (mk x k).2).1 (mk (mk x k).1 k).2).1, (markL mk (markL mk r (mk x k).2).1 (mk (mk x k).1 k).2).2) = _
   rw [h.idem, ih]; rfl
theorem MkOk.held {α : Type} {mk : α -> Int -> α × Int} {sz : α -> Nat} (h : MkOk mk sz) (x : α) (k : Int) : hdOf mk (mk x k).1 k = (mk x k).2 := by
 unfold hdOf
 rw [h.idem, Qaw]; rfl
theorem MkOk.hd {α : Type} {mk : α -> Int -> α × Int} {sz : α -> Nat} (h : MkOk mk sz) {x : α} {k : Int} (hk : 0 <= k) : (hdOf mk x k < 0 /\ hdOf mk x k = -1 /\ same x (mk x k).1 = false) ∨ (0 <= hdOf mk x k /\ hdOf mk x k = k + sz x /\ same x (mk x k).1 = true) := by
 unfold hdOf
 cases same x (mk x k).1
 ·exact .inl ⟨show (-1 : Int) < 0 by decide, rfl, rfl⟩
 ·have := h.go x k
  exact .inr ⟨by show 0 <= (mk x k).2; omega, this, rfl⟩
def mkPre {α : Type} (sz : α -> Nat) (x : α) (k : Int) : Bool := decide (0 <= k) && decide (k + sz x <= 4294967296)
theorem Qrr {α : Type} {sz : α -> Nat} {x : α} {k : Int} : mkPre sz x k = true ↔ 0 <= k /\ k + sz x <= 4294967296 := by unfold mkPre; simp only [Bool.and_eq_true, decide_eq_true_eq]
end Go.Vm

set_option linter.unusedVariables false
set_option linter.unusedSimpArgs false
namespace Go.Vm
def mkT (a : MAsk) (f : MDec) (c : Int) (m : List MDec) : MTst := (a, stateOf (a, 0, f, c, m), f, c, m)
noncomputable def tstPut (t : MTst) (v : MDec) : MTst × Bool := bif tstOk t && (decide (t.2.1 = 0) && decOk v) then (mkT t.1 v t.2.2.2.1 t.2.2.2.2, true) else (t, false)
noncomputable def tstCause (t : MTst) (c : Int) : MTst × Bool := bif tstOk t && (decide (t.2.1 = 1) && inq c 1 3) then (mkT t.1 t.2.2.1 c t.2.2.2.2, true) else (t, false)
noncomputable def tstMore (t : MTst) (v : MDec) : MTst × Bool := bif tstOk t && (decide (t.2.1 = 2) && decOk v) then (mkT t.1 t.2.2.1 t.2.2.2.1 (t.2.2.2.2 ++ [v]), true) else (t, false)
theorem Qhs (t : MTst) : stateOf t = 1 ∨ stateOf t = 2 ∨ stateOf t = 3 ∨ stateOf t = 4 := by
 unfold stateOf
 split
 ·split
  ·exact .inr (.inr (.inl rfl))
  ·exact .inl rfl
 ·split
  ·exact .inr (.inr (.inr rfl))
  ·split
   ·exact .inr (.inl rfl)
   ·split
    ·exact .inr (.inr (.inl rfl))
    ·exact .inr (.inr (.inr rfl))
theorem Qdh {t : MTst} : tstOkA t = true ↔ askOk t.1 = true /\ decOk t.2.2.1 = true /\ t.2.2.2.2.all decOk = true /\ inq t.2.2.2.1 0 3 = true /\ (t.2.2.2.2.length : Int) <= need t.2.2.2.1 := by
 unfold tstOkA; simp only [Bool.and_eq_true, decide_eq_true_eq]
theorem Qb2 {t : MTst} : tstOk t = true ↔ tstOkA t = true /\ ((t.2.1 = 0 /\ t.2.2.1 = (0, 0) /\ t.2.2.2.1 = 0) ∨ (t.2.1 ≠ 0 /\ t.2.1 = stateOf t /\ (t.2.2.2.1 = 0 ∨ spcIn t.1 t.2.2.1 = false))) := by
 unfold tstOk tstOkB
 rw [Bool.and_eq_true]
 by_cases h : t.2.1 = 0
 ·simp [h, Qbm]
 ·simp [h]
theorem Qng {t : MTst} (h : tstOk t = true) (h0 : t.2.1 = 0) : t.2.2.1 = (0, 0) /\ t.2.2.2.1 = 0 /\ t.2.2.2.2 = [] := by
 obtain ⟨hA, hB⟩ := Qb2.1 h
 obtain ⟨_, _, _, _, h5⟩ := Qdh.1 hA
 rcases hB with ⟨_, h2, h3⟩ | ⟨h1, _⟩
 ·refine ⟨h2, h3, List.eq_nil_of_length_eq_zero ?_⟩
  rw [h3] at h5
  have : need 0 = 0 := rfl
  omega
 ·exact absurd h0 h1
theorem Qnh {t : MTst} (h : tstOk t = true) (h0 : t.2.1 ≠ 0) : t.2.1 = stateOf t /\ (t.2.2.2.1 = 0 ∨ spcIn t.1 t.2.2.1 = false) := by
 rcases (Qb2.1 h).2 with ⟨h1, _⟩ | ⟨_, h2, h3⟩
 ·exact absurd h1 h0
 ·exact ⟨h2, h3⟩
theorem Qt0 {t : MTst} (h : tstOk t = true) (h0 : t.2.2.2.1 = 0) : t.2.2.2.2 = [] := by
 obtain ⟨_, _, _, _, h5⟩ := Qdh.1 (Qb2.1 h).1
 rw [h0] at h5
 have : need 0 = 0 := rfl
 exact List.eq_nil_of_length_eq_zero (by omega)
theorem Qrs {t : MTst} (h : stateOf t = 1) : t.2.2.2.1 = 0 /\ spcIn t.1 t.2.2.1 = false := by
 unfold stateOf at h
 split at h
 ·rename_i hc
  split at h
  ·cases h
  ·rename_i hs
   exact ⟨hc, Bool.eq_false_iff.2 hs⟩
 ·split at h
  ·cases h
  ·split at h
   ·cases h
   ·split at h <;> cases h
theorem Qoc {t : MTst} (h : stateOf t = 2) : t.2.2.2.1 ≠ 0 /\ t.2.2.2.1 ≠ 3 /\ (t.2.2.2.2.length : Int) < need t.2.2.2.1 := by
 unfold stateOf at h
 split at h
 ·split at h <;> cases h
 ·rename_i hc
  split at h
  ·cases h
  ·rename_i h3
   split at h
   ·rename_i hl; exact ⟨hc, h3, hl⟩
   ·split at h <;> cases h
theorem Qrt {t : MTst} (h : tstOk t = true) (h1 : t.2.1 = 1) : t.2.2.2.1 = 0 /\ spcIn t.1 t.2.2.1 = false /\ t.2.2.2.2 = [] := by
 have hs := Qnh h (by omega)
 obtain ⟨h2, h3⟩ := Qrs (hs.1.symm.trans h1)
 exact ⟨h2, h3, Qt0 h h2⟩
theorem Qni {t : MTst} (h : tstOk t = true) (h1 : t.2.1 = 2) : t.2.2.2.1 ≠ 0 /\ t.2.2.2.1 ≠ 3 /\ (t.2.2.2.2.length : Int) < need t.2.2.2.1 /\ spcIn t.1 t.2.2.1 = false := by
 have hs := Qnh h (by omega)
 obtain ⟨h2, h3, h4⟩ := Qoc (hs.1.symm.trans h1)
 exact ⟨h2, h3, h4, hs.2.resolve_left h2⟩
theorem Qnj {a : MAsk} {f : MDec} {c : Int} {m : List MDec} (h1 : askOk a = true) (h2 : decOk f = true) (h3 : m.all decOk = true) (h4 : inq c 0 3 = true) (h5 : (m.length : Int) <= need c) (h6 : c = 0 ∨ spcIn a f = false) : tstOk (mkT a f c m) = true := by
 refine Qb2.2 ⟨Qdh.2 ⟨h1, h2, h3, h4, h5⟩, .inr ⟨?_, rfl, h6⟩⟩
 show stateOf (a, 0, f, c, m) ≠ 0
 rcases Qhs (a, 0, f, c, m) with h | h | h | h <;> rw [h] <;> decide
theorem Qnk {t : MTst} {v : MDec} (h : tstOk t = true) (h0 : t.2.1 = 0) (hv : decOk v = true) : tstOk (mkT t.1 v t.2.2.2.1 t.2.2.2.2) = true := by
 obtain ⟨g1, g2, g3, g4, g5⟩ := Qdh.1 (Qb2.1 h).1
 exact Qnj g1 hv g3 g4 g5 (.inl (Qng h h0).2.1)
theorem Qjx {t : MTst} {c : Int} (h : tstOk t = true) (h1 : t.2.1 = 1) (hc : inq c 1 3 = true) : tstOk (mkT t.1 t.2.2.1 c t.2.2.2.2) = true := by
 obtain ⟨g1, g2, g3, g4, g5⟩ := Qdh.1 (Qb2.1 h).1
 obtain ⟨k1, k2, k3⟩ := Qrt h h1
 have hc := Qar.1 hc
 refine Qnj g1 g2 g3 (Qar.2 ⟨by omega, hc.2⟩) ?_ (.inr k2)
 rw [k3]
 show (0 : Int) <= need c
 unfold need; split <;> (try split) <;> omega
theorem Qlf {t : MTst} {v : MDec} (h : tstOk t = true) (h2 : t.2.1 = 2) (hv : decOk v = true) : tstOk (mkT t.1 t.2.2.1 t.2.2.2.1 (t.2.2.2.2 ++ [v])) = true := by
 obtain ⟨g1, g2, g3, g4, g5⟩ := Qdh.1 (Qb2.1 h).1
 obtain ⟨k1, k2, k3, k4⟩ := Qni h h2
 refine Qnj g1 g2 ?_ g4 ?_ (.inr k4)
 ·rw [List.all_append, g3]
  show (decOk v && true) = true
  rw [hv]; rfl
 ·rw [List.length_append]; show ((t.2.2.2.2.length + 1 : Nat) : Int) <= _; omega
theorem Qfi {a : MAsk} {s : Int} {f : MDec} {c : Int} {m : List MDec} (h : tstOk (mkT a f c m) = true) : tsPre (a, s, f, c, m) = true := by
 have := Qha (Qb2.1 h).1
 exact this
theorem Qe4 {t : MTst} {v : MDec} : (tstPut t v).2 = true ↔ tstOk t = true /\ t.2.1 = 0 /\ decOk v = true := by
 unfold tstPut
 cases h : (tstOk t && (decide (t.2.1 = 0) && decOk v))
 ·simp only [cond_false]; constructor
  ·intro e; cases e
  ·intro e; simp [e.1, e.2.1, e.2.2] at h
 ·simp only [Bool.and_eq_true, decide_eq_true_eq] at h; simp [h.1, h.2.1, h.2.2]
theorem Qfw {t : MTst} {c : Int} : (tstCause t c).2 = true ↔ tstOk t = true /\ t.2.1 = 1 /\ inq c 1 3 = true := by
 unfold tstCause
 cases h : (tstOk t && (decide (t.2.1 = 1) && inq c 1 3))
 ·simp only [cond_false]; constructor
  ·intro e; cases e
  ·intro e; simp [e.1, e.2.1, e.2.2] at h
 ·simp only [Bool.and_eq_true, decide_eq_true_eq] at h; simp [h.1, h.2.1, h.2.2]
theorem Qja {t : MTst} {v : MDec} : (tstMore t v).2 = true ↔ tstOk t = true /\ t.2.1 = 2 /\ decOk v = true := by
 unfold tstMore
 cases h : (tstOk t && (decide (t.2.1 = 2) && decOk v))
 ·simp only [cond_false]; constructor
  ·intro e; cases e
  ·intro e; simp [e.1, e.2.1, e.2.2] at h
 ·simp only [Bool.and_eq_true, decide_eq_true_eq] at h; simp [h.1, h.2.1, h.2.2]
theorem Qic {t : MTst} {v : MDec} (h : (tstPut t v).2 = false) : (tstPut t v).1 = t := by
 unfold tstPut at h ⊢
 cases hc : (tstOk t && (decide (t.2.1 = 0) && decOk v))
 ·rfl
 ·rw [hc] at h; cases h
theorem Qgf {t : MTst} {c : Int} (h : (tstCause t c).2 = false) : (tstCause t c).1 = t := by
 unfold tstCause at h ⊢
 cases hc : (tstOk t && (decide (t.2.1 = 1) && inq c 1 3))
 ·rfl
 ·rw [hc] at h; cases h
theorem Qe5 {t : MTst} {v : MDec} (h : (tstMore t v).2 = false) : (tstMore t v).1 = t := by
 unfold tstMore at h ⊢
 cases hc : (tstOk t && (decide (t.2.1 = 2) && decOk v))
 ·rfl
 ·rw [hc] at h; cases h
theorem Qe6 {t : MTst} {v : MDec} (h : (tstPut t v).2 = true) : (tstPut t v).1 = mkT t.1 v t.2.2.2.1 t.2.2.2.2 /\ tstOk (tstPut t v).1 = true := by
 obtain ⟨h1, h2, h3⟩ := Qe4.1 h
 have e : (tstPut t v).1 = mkT t.1 v t.2.2.2.1 t.2.2.2.2 := by unfold tstPut; rw [h1, decide_eq_true h2, h3]; rfl
 exact ⟨e, by rw [e]; exact Qnk h1 h2 h3⟩
theorem Qd7 {t : MTst} {c : Int} (h : (tstCause t c).2 = true) : (tstCause t c).1 = mkT t.1 t.2.2.1 c t.2.2.2.2 /\ tstOk (tstCause t c).1 = true := by
 obtain ⟨h1, h2, h3⟩ := Qfw.1 h
 have e : (tstCause t c).1 = mkT t.1 t.2.2.1 c t.2.2.2.2 := by unfold tstCause; rw [h1, decide_eq_true h2, h3]; rfl
 exact ⟨e, by rw [e]; exact Qjx h1 h2 h3⟩
theorem Qdm {t : MTst} {v : MDec} (h : (tstMore t v).2 = true) : (tstMore t v).1 = mkT t.1 t.2.2.1 t.2.2.2.1 (t.2.2.2.2 ++ [v]) /\ tstOk (tstMore t v).1 = true := by
 obtain ⟨h1, h2, h3⟩ := Qja.1 h
 have e : (tstMore t v).1 = mkT t.1 t.2.2.1 t.2.2.2.1 (t.2.2.2.2 ++ [v]) := by unfold tstMore; rw [h1, decide_eq_true h2, h3]; rfl
 exact ⟨e, by rw [e]; exact Qlf h1 h2 h3⟩
end Go.Vm

set_option linter.unusedVariables false
set_option linter.unusedSimpArgs false
namespace Go.Vm
def mix (m n : Int) : Int := Int.tmod (m * 8191 + Int.tmod n 999983 + 999983 + 7) 999983
def mkR (m : Int) : Prop := 0 <= m /\ m < 999983
theorem Ql2 {m n : Int} (h : mkR m) : (0 <= m * 8191 /\ m * 8191 <= 8190860753) /\ (-999983 < Int.tmod n 999983 /\ Int.tmod n 999983 < 999983) := by
 have h1 := h.1
 have h2 := h.2
 refine ⟨⟨by omega, by omega⟩, ?_, ?_⟩
 ·have := Int.tmod_lt_of_pos (-n) (show (0 : Int) < 999983 by decide)
  rw [Int.neg_tmod] at this
  omega
 ·exact Int.tmod_lt_of_pos n (by decide)
theorem mix_r {m n : Int} (h : mkR m) : mkR (mix m n) := by
 obtain ⟨h1, h2⟩ := Ql2 (n := n) h
 unfold mix
 exact ⟨Int.tmod_nonneg _ (by omega), Int.tmod_lt_of_pos _ (by decide)⟩
def markMore : Int -> List MDec -> Int
 | m, [] => m
 | m, v :: r => markMore (mix (mix m v.1) v.2) r
def markHead (m : Int) (t : MTst) : Int := mix (mix (mix (mix m t.2.1) t.2.2.1.1) t.2.2.1.2) t.2.2.2.1
def markTst (m : Int) (t : MTst) : Int := markMore (markHead m t) t.2.2.2.2
def markTsts : Int -> List MTst -> Int
 | m, [] => m
 | m, t :: r => markTsts (markTst m t) r
def markDev (m : Int) (i : Nat) (d : Bool) : Int := bif d then mix (mix m ((i + 1 : Nat) : Int)) 77 else mix m ((i + 1 : Nat) : Int)
def markDevs : Nat -> Int -> List Bool -> Int
 | _, m, [] => m
 | i, m, d :: r => markDevs (i + 1) (markDev m i d) r
def batMark (b : MBat) : Int := markDevs 0 (markTsts (mix 1 b.1) b.2.2.1) b.2.2.2.2.2
theorem Qkp : ∀ {l : List MDec} {m : Int}, mkR m -> mkR (markMore m l)
 | [], m, h => h
 | v :: r, m, h => Qkp (l := r) (mix_r (mix_r h))
theorem Qhc {m : Int} {t : MTst} (h : mkR m) : mkR (markHead m t) := mix_r (mix_r (mix_r (mix_r h)))
theorem Qid {m : Int} {t : MTst} (h : mkR m) : mkR (markTst m t) := Qkp (Qhc h)
theorem Qkq : ∀ {l : List MTst} {m : Int}, mkR m -> mkR (markTsts m l)
 | [], m, h => h
 | t :: r, m, h => Qkq (l := r) (Qid h)
theorem Qie {m : Int} {i : Nat} {d : Bool} (h : mkR m) : mkR (markDev m i d) := by
 unfold markDev
 cases d
 ·exact mix_r h
 ·exact mix_r (mix_r h)
theorem Qkr : ∀ {l : List Bool} {i : Nat} {m : Int}, mkR m -> mkR (markDevs i m l)
 | [], i, m, h => h
 | d :: r, i, m, h => Qkr (l := r) (Qie h)
theorem one_r : mkR 1 := ⟨by decide, by decide⟩
theorem Qru (b : MBat) : mkR (batMark b) := Qkr (Qkq (mix_r one_r))
def signedBy (mk role but : Int) : List MSig -> Int
 | [] => 0
 | s :: r => bif decide (s.2.1 = role) && (decide (s.2.2 = mk) && !decide (s.1 = but)) then s.1 else signedBy mk role but r
def batSigned (b : MBat) (role but : Int) : Int := signedBy (batMark b) role but b.2.2.2.2.1
def signs (r : Int) : Bool := decide (r = 2) || decide (r = 3)
def sigOk (s : MSig) : Bool := inq s.1 1 5 && (signs s.2.1 && inq s.2.2 0 999982)
def hand1 (b : MBat) (s : MSig) : Bool := decide (s.2.1 = 2) && (decide (s.2.2 = batMark b) && decide (0 < batSigned b 3 s.1))
def hands (b : MBat) : Bool := b.2.2.2.2.1.any (hand1 b)
def passed (t : MTst) : Bool := decide (t.2.1 = 3)
def shutAll (b : MBat) : Bool := b.2.2.1.all passed && b.2.2.2.2.2.all (!·)
def gate (b : MBat) : Bool := shutAll b && hands b
def riseL {α : Type} (ok : α -> Bool) (key : α -> Int) : Option Int -> List α -> Bool
 | _, [] => true
 | p, t :: r => ok t && (rises p (key t) && riseL ok key (some (key t)) r)
noncomputable def tstsOk (p : Option Int) (l : List MTst) : Bool := riseL tstOk (fun t => t.1.1) p l
noncomputable def batOkA (b : MBat) : Bool := inq b.1 0 5 && (inq b.2.1 1 10000 && (inq b.2.2.1.length 1 4 && (inq b.2.2.2.1 1 4 && (tstsOk none b.2.2.1 && (decide (b.2.2.2.2.1.length <= 6) && (b.2.2.2.2.1.all sigOk && decide (b.2.2.2.2.2.length <= 3)))))))
def freed (s : Int) : Bool := decide (s = 2) || decide (s = 4)
noncomputable def batOk (b : MBat) : Bool := batOkA b && (!freed b.2.2.2.1 || gate b)
def newT (a : MAsk) : MTst := (a, 0, (0, 0), 0, [])
def batNone : MBat := (0, 0, [], 0, [], [])
def batNew (k : Int) (l : List MAsk) (n : Int) : MBat := bif inq k 0 5 && (testsOk l && inq n 1 10000) then (k, n, l.map newT, 1, [], []) else batNone
noncomputable def isOpen (b : MBat) : Bool := batOk b && decide (b.2.2.2.1 = 1)
noncomputable def batSign (b : MBat) (u r : Int) : MBat × Bool := bif isOpen b && (inq u 1 5 && (signs r && !decide (b.2.2.2.2.1.length = 6))) then ((b.1, b.2.1, b.2.2.1, b.2.2.2.1, b.2.2.2.2.1 ++ [(u, r, batMark b)], b.2.2.2.2.2), true) else (b, false)
noncomputable def batMove (b : MBat) (s : Int) : MBat × Bool := bif batOk b && ((decide (b.2.2.2.1 = 1) && (decide (s = 3) || (decide (s = 2) && gate b))) || (decide (b.2.2.2.1 = 2) && decide (s = 4))) then ((b.1, b.2.1, b.2.2.1, s, b.2.2.2.2.1, b.2.2.2.2.2), true) else (b, false)
noncomputable def batDev (b : MBat) (k : Int) (o : Bool) : MBat × Bool :=
 bif isOpen b && (bif o then decide (k = b.2.2.2.2.2.length) && decide (k < 3) else inq k 0 ((b.2.2.2.2.2.length : Int) - 1) && b.2.2.2.2.2.getD k.toNat false)
 then ((b.1, b.2.1, b.2.2.1, b.2.2.2.1, b.2.2.2.2.1, bif o then b.2.2.2.2.2 ++ [true] else b.2.2.2.2.2.set k.toNat false), true) else (b, false)
noncomputable def tstTurn (t : MTst) (w : Int) (v : MDec) (c : Int) : MTst × Bool := if w = 1 then tstPut t v else if w = 2 then tstCause t c else if w = 3 then tstMore t v else (t, false)
def findT (l : List MTst) (n : Int) : Int := idxOf (fun t : MTst => decide (t.1.1 = n)) l 0
def t0 : MTst := ((0, (0, 0), (0, 0), 0), 0, (0, 0), 0, [])
noncomputable def batTest (b : MBat) (n w : Int) (v : MDec) (c : Int) : MBat × Bool :=
 bif isOpen b && !decide (findT b.2.2.1 n < 0) then
  ((b.1, b.2.1, b.2.2.1.set (findT b.2.2.1 n).toNat (tstTurn (b.2.2.1.getD (findT b.2.2.1 n).toNat t0) w v c).1, b.2.2.2.1, b.2.2.2.2.1, b.2.2.2.2.2), (tstTurn (b.2.2.1.getD (findT b.2.2.1 n).toNat t0) w v c).2)
 else (b, false)
end Go.Vm

set_option linter.unusedVariables false
set_option linter.unusedSimpArgs false
namespace Go.Vm
def hasB (k : Int) : Bool := inq k 4 12
def hasN (k : Int) : Bool := decide (k = 2) || (decide (k = 3) || (decide (k = 5) || decide (k = 8)))
def hasV (k : Int) : Bool := decide (k = 4) || decide (k = 6)
def hasT (k : Int) : Bool := inq k 4 6
noncomputable def reqOk (r : MReq) : Bool :=
 inq r.2.1 1 12 && (inq r.1 1 5 && ((decide (r.2.2.1 = 0) || (hasB r.2.1 && inq r.2.2.1 0 9)) && ((decide (r.2.2.2.2.1 = 0) || (hasN r.2.1 && inq r.2.2.2.2.1 0 10000)) &&
  ((same r.2.2.2.2.2.1 (0, 0) || (hasV r.2.1 && decOk r.2.2.2.2.2.1)) && ((bif hasT r.2.1 then inq r.2.2.2.1 1 4 else decide (r.2.2.2.1 = 0)) && (bif decide (r.2.1 = 1) then testsOk r.2.2.2.2.2.2 else decide (r.2.2.2.2.2.2.length = 0)))))))
def reqMay (o k : Int) : Bool :=
 if k = 1 then decide (o = 4) else if k = 2 then decide (o = 4) else if k = 3 then decide (o = 1) || decide (o = 2) else if k = 4 then decide (o = 1) || decide (o = 2) else if k = 5 then decide (o = 2) || decide (o = 3)
 else if k = 6 then decide (o = 1) || decide (o = 2) else if k = 7 then decide (o = 1) || decide (o = 2) else if k = 8 then decide (o = 2) || decide (o = 3) else if k = 9 then decide (o = 2) || decide (o = 3)
 else if k = 10 then decide (o = 3) else if k = 11 then decide (o = 3) else if k = 12 then decide (o = 3) else false
def about (r : MReq) : Int := bif inq r.2.1 1 3 || !inq r.2.2.1 0 3 then 0 else r.2.2.1 + 1
def rolesOk (l : List Int) : Bool := inq l.length 1 5 && l.all (inq · 1 4)
def sigIn (roles : List Int) (s : MSig) : Bool := decide (s.1 <= (roles.length : Int)) && decide (roles.getD (s.1 - 1).toNat 0 = s.2.1)
def spc0 : MSpc := ([], 0)
noncomputable def batIn (roles : List Int) (specs : List MSpc) (b : MBat) : Bool :=
 batOk b && (decide (b.1 < (specs.length : Int)) && (!decide ((specs.getD b.1.toNat spc0).2 = 1) && (same (b.2.2.1.map (·.1)) (specs.getD b.1.toNat spc0).1 && b.2.2.2.2.1.all (sigIn roles))))
noncomputable def houOk (h : MHou) : Bool := rolesOk h.1 && (spcsOk h.2.1 && (decide (h.2.2.length <= 4) && h.2.2.all (batIn h.1 h.2.1)))
noncomputable def batTurn (b : MBat) (r : MReq) (role : Int) : MBat × Bool :=
 if r.2.1 = 4 then batTest b r.2.2.2.1 1 r.2.2.2.2.2.1 0 else if r.2.1 = 5 then batTest b r.2.2.2.1 2 (0, 0) r.2.2.2.2.1 else if r.2.1 = 6 then batTest b r.2.2.2.1 3 r.2.2.2.2.2.1 0
 else if r.2.1 = 7 then batDev b b.2.2.2.2.2.length true else if r.2.1 = 8 then batDev b r.2.2.2.2.1 false else if r.2.1 = 9 then batSign b r.1 role
 else if r.2.1 = 10 then batMove b 2 else if r.2.1 = 11 then batMove b 3 else batMove b 4
def ans (ok : Bool) (no : Int) : Int := bif ok then 1 else no
def roleOf (h : MHou) (r : MReq) : Int := h.1.getD (r.1 - 1).toNat 0
def houMay (h : MHou) (r : MReq) : Bool := decide (r.1 <= (h.1.length : Int)) && reqMay (roleOf h r) r.2.1
noncomputable def houTake (h : MHou) (r : MReq) : MHou × Int :=
 if spcNow h.2.1 < 0 then (h, 4) else if h.2.2.length = 4 then (h, 6) else if r.2.2.2.2.1 = 0 then (h, 5) else
  ((h.1, h.2.1, h.2.2 ++ [batNew (spcNow h.2.1) (h.2.1.getD (spcNow h.2.1).toNat spc0).1 r.2.2.2.2.1]), 1)
noncomputable def houTurn (h : MHou) (r : MReq) : MHou × Int :=
 if (h.2.2.length : Int) <= r.2.2.1 then (h, 3) else
  ((h.1, h.2.1, h.2.2.set r.2.2.1.toNat (batTurn (h.2.2.getD r.2.2.1.toNat batNone) r (roleOf h r)).1), ans (batTurn (h.2.2.getD r.2.2.1.toNat batNone) r (roleOf h r)).2 5)
noncomputable def houGo (h : MHou) (r : MReq) : MHou × Int :=
 bif houMay h r then
  (if r.2.1 = 1 then ((h.1, (spcAdd h.2.1 r.2.2.2.2.2.2).1, h.2.2), ans (spcAdd h.2.1 r.2.2.2.2.2.2).2 6)
   else if r.2.1 = 2 then (if (h.2.1.length : Int) <= r.2.2.2.2.1 then (h, 4) else ((h.1, (spcRaise h.2.1 r.2.2.2.2.1).1, h.2.2), ans (spcRaise h.2.1 r.2.2.2.2.1).2 5))
   else if r.2.1 = 3 then houTake h r else houTurn h r)
 else (h, 2)
def hou0 : MHou := ([], [], [])
end Go.Vm

set_option linter.unusedVariables false
set_option linter.unusedSimpArgs false
namespace Go.Vm
theorem MkOk.size {α : Type} {mk : α -> Int -> α × Int} {sz : α -> Nat} (h : MkOk mk sz) (x : α) (k : Int) : sz (mk x k).1 = sz x := by
 have h1 := h.go x k
 have h2 := h.go (mk x k).1 k
 rw [h.idem] at h2
 omega
theorem MkOk.next {α β : Type} {mk : α -> Int -> α × Int} {sz : α -> Nat} (h : MkOk mk sz) {x : α} {k : Int} {sz2 : β -> Nat} {y : β} (h0 : 0 <= k) (hp : k + sz x + sz2 y <= 4294967296) : mkPre sz2 y (mk x k).2 = true := by
 have := h.go x k
 exact Qrr.2 ⟨by omega, by omega⟩
end Go.Vm

set_option linter.unusedVariables false
set_option linter.unusedSimpArgs false
namespace Go.Vm
theorem Qif {t : MTst} (h : tstOk t = true) : t.2.2.2.2.length <= 2 := (Qcn.1 (Qha (Qb2.1 h).1)).2.2.2
theorem Qt1 (t : MTst) (v : MDec) : (tstPut t v).1.2.2.2.2 = t.2.2.2.2 := by unfold tstPut; cases (tstOk t && (decide (t.2.1 = 0) && decOk v)) <;> rfl
theorem Qrv (t : MTst) (c : Int) : (tstCause t c).1.2.2.2.2 = t.2.2.2.2 := by unfold tstCause; cases (tstOk t && (decide (t.2.1 = 1) && inq c 1 3)) <;> rfl
theorem Qs8 {t : MTst} {v : MDec} {n : Nat} (h : t.2.2.2.2.length <= n) (hn : 2 <= n) : (tstMore t v).1.2.2.2.2.length <= n := by
 cases hc : (tstMore t v).2
 ·rw [Qe5 hc]; exact h
 ·exact Nat.le_trans (Qif (Qdm hc).2) hn
theorem Qp0 (a : MAsk) : tstOk (newT a) = askOk a := Qrp a
end Go.Vm

set_option linter.unusedVariables false
set_option linter.unusedSimpArgs false
namespace Go.Vm
def WithFuel {β : Type} (F : Nat -> Option β) (P : β -> Prop) : Prop := ∃ k, Gets (F k) P
theorem WithFuel.eq {β : Type} {F : Nat -> Option β} {z : β} (h : WithFuel F (fun v => v = z)) : ∃ k, F k = some z := by obtain ⟨k, v, h1, rfl⟩ := h; exact ⟨k, h1⟩
theorem Ql3 {β : Type} {F : Nat -> Option β} {z : β} (k : Nat) (h : F k = some z) : WithFuel F (fun v => v = z) := ⟨k, z, h, rfl⟩
theorem Qey {σ β : Type} (n : Nat) (F : Nat -> Nat -> σ -> Option β) (P : β -> Prop) (Inv : Nat -> σ -> Prop) (hend : ∀ s, Inv n s -> WithFuel (fun k => F k n s) P)
  (hstep : ∀ i s, i < n -> Inv i s -> (∀ s', Inv (i + 1) s' -> WithFuel (fun k => F k (i + 1) s') P) -> WithFuel (fun k => F k i s) P) : ∀ m i s, i + m = n -> Inv i s -> WithFuel (fun k => F k i s) P
 | 0, i, s, h, hi => by
  have : i = n := by omega
  subst this; exact hend s hi
 | m + 1, i, s, h, hi => hstep i s (by omega) hi fun s' hs' => Qey n F P Inv hend hstep m (i + 1) s' (by omega) hs'
def foldI {α σ : Type} (g : Nat -> σ -> α -> σ) : Nat -> σ -> List α -> σ
 | _, s, [] => s
 | i, s, x :: r => foldI g (i + 1) (g i s x) r
theorem Qdz {α σ β : Type} (xs : List α) (g : Nat -> σ -> α -> σ) (Inv : σ -> Prop) (F : Nat -> Nat -> σ -> Option β) (P : β -> Prop) (hinv : ∀ i s x, Inv s -> Inv (g i s x))
  (s0 : σ) (h0 : Inv s0) (hend : Inv (foldI g 0 s0 xs) -> WithFuel (fun k => F k xs.length (foldI g 0 s0 xs)) P)
  (hstep : ∀ i x r s, xs.drop i = x :: r -> i < xs.length -> Inv s -> WithFuel (fun k => F k (i + 1) (g i s x)) P -> WithFuel (fun k => F k i s) P) : WithFuel (fun k => F k 0 s0) P := by
 have go : ∀ (m i : Nat) (s : σ), i + m = xs.length -> Inv s -> foldI g i s (xs.drop i) = foldI g 0 s0 xs -> WithFuel (fun k => F k i s) P := by
  intro m
  induction m with
  | zero =>
   intro i s h hs he
   have : i = xs.length := by omega
   subst this
   rw [List.drop_length] at he
   have he : s = foldI g 0 s0 xs := he
   subst he
   exact hend hs
  | succ m ih =>
   intro i s h hs he
   have hi : i < xs.length := by omega
   have hd := List.drop_eq_getElem_cons hi
   rw [hd] at he
   exact hstep i _ _ s hd hi hs (ih (i + 1) _ (by omega) (hinv _ _ _ hs) he)
 exact go xs.length 0 s0 (by omega) h0 rfl
theorem Qhd {α : Type} (xs ys : List α) (hl : xs.length = ys.length) (b : Bool) (F : Nat -> Nat -> Option (Bool × Unit)) (hend : ∃ k, F k xs.length = some (b, ()))
  (hstep : ∀ k i x y r r', xs.drop i = x :: r -> ys.drop i = y :: r' -> i < xs.length -> i < ys.length -> F (k + 1) i = bif same x y then F k (i + 1) else some (false, ())) : ∃ k, F k 0 = some (same xs ys && b, ()) := by
 have go : ∀ (m i : Nat), i + m = xs.length -> ∃ k, F k i = some (same (xs.drop i) (ys.drop i) && b, ()) := by
  intro m
  induction m with
  | zero =>
   intro i h
   have : i = xs.length := by omega
   subst this
   rw [List.drop_length, hl, List.drop_length, Qaw, <- hl]
   exact hend
  | succ m ih =>
   intro i h
   have hi : i < xs.length := by omega
   have hi' : i < ys.length := by omega
   have hd := List.drop_eq_getElem_cons hi
   have hd' := List.drop_eq_getElem_cons hi'
   obtain ⟨k, hk⟩ := ih (i + 1) (by omega)
   refine ⟨k + 1, ?_⟩
   rw [hstep k i _ _ _ _ hd hd' hi hi', hd, hd', hk]
   have : same (xs[i] :: xs.drop (i + 1)) (ys[i] :: ys.drop (i + 1)) = (same xs[i] ys[i] && same (xs.drop (i + 1)) (ys.drop (i + 1))) := by
    rw [Bool.eq_iff_iff, Bool.and_eq_true, Qbm, Qbm, Qbm, List.cons.injEq]
   rw [this]
   cases same xs[i] ys[i] <;> rfl
 simpa using go xs.length 0 (by omega)
theorem Qig {α : Type} (xs : List α) (p : α -> Bool) (b : Bool) (F : Nat -> Nat -> Option (Bool × Unit)) (hend : xs.all p = true -> ∃ k, F k xs.length = some (b, ()))
  (hstep : ∀ k i x r, xs.drop i = x :: r -> i < xs.length -> F (k + 1) i = bif p x then F k (i + 1) else some (false, ())) : ∃ k, F k 0 = some (xs.all p && b, ()) := by
 have go : ∀ (m i : Nat), i + m = xs.length -> (xs.take i).all p = true -> ∃ k, F k i = some ((xs.drop i).all p && b, ()) := by
  intro m
  induction m with
  | zero =>
   intro i h ha
   have : i = xs.length := by omega
   subst this
   rw [List.take_length] at ha
   rw [List.drop_length]
   exact hend ha
  | succ m ih =>
   intro i h ha
   have hi : i < xs.length := by omega
   have hd := List.drop_eq_getElem_cons hi
   cases hp : p xs[i]
   ·refine ⟨1, ?_⟩
    rw [hstep 0 i _ _ hd hi, hd, hp, List.all_cons, hp]; rfl
   ·obtain ⟨k, hk⟩ := ih (i + 1) (by omega) (by
     rw [List.take_succ_eq_append_getElem hi, List.all_append, ha]
     simp [hp])
    refine ⟨k + 1, ?_⟩
    rw [hstep k i _ _ hd hi, hd, hp, hk, List.all_cons, hp]; rfl
 simpa using go xs.length 0 (by omega) (by simp)
def prevK {α : Type} (key : α -> Int) (xs : List α) (i : Nat) : Option Int := if i = 0 then none else (xs[i - 1]?).map key
theorem Qp1 {α : Type} {key : α -> Int} {xs r : List α} {x : α} {i : Nat} (h : xs.drop i = x :: r) : prevK key xs (i + 1) = some (key x) := by
 have h1 : xs[i]? = some x := by
  have := congrArg List.head? h
  rwa [List.head?_drop] at this
 unfold prevK
 rw [if_neg (by omega), Nat.add_sub_cancel, h1]; rfl
theorem Ql4 {α : Type} (ok : α -> Bool) (key : α -> Int) (xs : List α) (b : Bool) (F : Nat -> Nat -> Option (Bool × Unit)) (hend : xs.all ok = true -> ∃ k, F k xs.length = some (b, ()))
  (hstep : ∀ k i x r, xs.drop i = x :: r -> i < xs.length -> F (k + 1) i = bif (ok x && rises (prevK key xs i) (key x)) then F k (i + 1) else some (false, ())) :
  ∃ k, F k 0 = some (riseL ok key none xs && b, ()) := by
 have go : ∀ (m i : Nat), i + m = xs.length -> (xs.take i).all ok = true -> ∃ k, F k i = some (riseL ok key (prevK key xs i) (xs.drop i) && b, ()) := by
  intro m
  induction m with
  | zero =>
   intro i h ha
   have : i = xs.length := by omega
   subst this
   rw [List.take_length] at ha
   rw [List.drop_length]
   exact hend ha
  | succ m ih =>
   intro i h ha
   have hi : i < xs.length := by omega
   have hd := List.drop_eq_getElem_cons hi
   have e : riseL ok key (prevK key xs i) (xs[i] :: xs.drop (i + 1)) = ((ok xs[i] && rises (prevK key xs i) (key xs[i])) && riseL ok key (some (key xs[i])) (xs.drop (i + 1))) := by
    rw [Bool.and_assoc]; rfl
   cases hp : (ok xs[i] && rises (prevK key xs i) (key xs[i]))
   ·refine ⟨1, ?_⟩
    rw [hstep 0 i _ _ hd hi, hd, e, hp]; rfl
   ·obtain ⟨k, hk⟩ := ih (i + 1) (by omega) (by
     rw [Bool.and_eq_true] at hp
     rw [List.take_succ_eq_append_getElem hi, List.all_append, ha]
     simp [hp.1])
    refine ⟨k + 1, ?_⟩
    rw [hstep k i _ _ hd hi, hd, e, hp, hk, Qp1 hd]; rfl
 have := go xs.length 0 (by omega) (by simp)
 rw [List.drop_zero] at this
 exact this
theorem Ql5 {α : Type} (ok : α -> Bool) (key : α -> Int) {xs r : List α} {x : α} {i : Nat} (hx : xs.length <= 4294967296) (hd : xs.drop i = x :: r) (hi : i < xs.length) (Z : Option (Bool × Unit)) (rd : Int -> α) (hrd : ∀ j : Nat, j < xs.length -> some (rd j) = xs[j]?) :
  (bif (bif ok (rd (i : Int)) then false else true) then (some (false, ())) else (bif (decide ((0 : Int) < (i : Int))) then (bif (bif (decide ((0 : Int) <= (w64 ((i : Int) - (1 : Int))))) then (decide ((w64 ((i : Int) - (1 : Int))) < ((List.length xs : Int)))) else false) then (bif (decide (key (rd (i : Int)) <= key (rd (w64 ((i : Int) - (1 : Int)))))) then (some (false, ())) else Z) else none) else Z)) =
  bif (ok x && rises (prevK key xs i) (key x)) then Z else some (false, ()) := by
 have h1 : xs[i]? = some x := by
  have := congrArg List.head? hd
  rwa [List.head?_drop] at this
 have e1 : rd (i : Int) = x := by have := hrd i hi; rw [h1] at this; exact Option.some.inj this
 rw [e1]
 cases ha : ok x
 ·rfl
 ·by_cases h0 : i = 0
  ·subst h0; rfl
  ·have e2 : w64 ((i : Int) - (1 : Int)) = ((i - 1 : Nat) : Int) := by rw [Qak (by omega) (by omega)]; omega
   rw [e2, Qai (show i - 1 < xs.length by omega), decide_eq_true (show (0 : Int) < (i : Int) by omega)]
   have e3 : prevK key xs i = some (key (rd ((i - 1 : Nat) : Int))) := by
    unfold prevK
    rw [if_neg h0, <- hrd (i - 1) (by omega)]; rfl
   rw [e3]
   simp only [cond_true, cond_false, Bool.true_and, rises]
   by_cases hlt : key (rd ((i - 1 : Nat) : Int)) < key x
   ·rw [decide_eq_true hlt, decide_eq_false (by omega)]; rfl
   ·rw [decide_eq_false hlt, decide_eq_true (by omega)]; rfl
def smB (b : MBat) : Bool := decide (b.2.2.1.length <= 4294967296) && (b.2.2.1.all (fun t => decide (t.2.2.2.2.length <= 4294967296)) && (decide (b.2.2.2.2.1.length <= 4294967296) && decide (b.2.2.2.2.2.length <= 4294967296)))
theorem Qbv {b : MBat} : smB b = true ↔ b.2.2.1.length <= 4294967296 /\ (∀ t ∈ b.2.2.1, t.2.2.2.2.length <= 4294967296) /\ b.2.2.2.2.1.length <= 4294967296 /\ b.2.2.2.2.2.length <= 4294967296 := by
 unfold smB; simp only [Bool.and_eq_true, decide_eq_true_eq, List.all_eq_true]
theorem Qhe {α : Type} {xs ys : List α} (h : xs.length ≠ ys.length) : same xs ys = false := Qcm fun e => h (congrArg List.length e)
def mixes (m : Int) (l : List Int) : Int := l.foldl mix m
def mixPre (m : Int) (l : List Int) : Bool := decide (0 <= m) && (decide (m < 999983) && decide (l.length <= 4294967296))
theorem Qks {m : Int} {l : List Int} : mixPre m l = true ↔ mkR m /\ l.length <= 4294967296 := by
 unfold mixPre mkR; simp only [Bool.and_eq_true, decide_eq_true_eq]
 exact ⟨fun h => ⟨⟨h.1, h.2.1⟩, h.2.2⟩, fun h => ⟨h.1.1, h.1.2, h.2⟩⟩
theorem mix_w {m n : Int} (h : mkR m) : Int.tmod (w64 (w64 (w64 (w64 (m * 8191) + Int.tmod n 999983) + 999983) + 7)) 999983 = mix m n := by
 obtain ⟨h1, h2⟩ := Ql2 (n := n) h
 rw [Qak (x := m * 8191) (by omega) (by omega), Qak (x := m * 8191 + Int.tmod n 999983) (by omega) (by omega), Qak (x := m * 8191 + Int.tmod n 999983 + 999983) (by omega) (by omega), Qak (x := m * 8191 + Int.tmod n 999983 + 999983 + 7) (by omega) (by omega)]
 rfl
end Go.Vm

set_option linter.unusedVariables false
set_option linter.unusedSimpArgs false
namespace Go.Vm
theorem Qnl : ∀ (l : List MAsk) (p : Option Int), riseL tstOk (fun t => t.1.1) p (l.map newT) = asksOk p l
 | [], p => rfl
 | a :: r, p => by
  show (tstOk (newT a) && (rises p a.1 && riseL tstOk (fun t => t.1.1) (some a.1) (r.map newT))) = (askOk a && (rises p a.1 && asksOk (some a.1) r))
  rw [Qp0, Qnl r]
theorem Qgg {l : List MAsk} (h : testsOk l = true) : 1 <= l.length /\ l.length <= 4 := by
 unfold testsOk at h
 have := Qar.1 (Bool.and_eq_true_iff.1 h).1
 omega
theorem Qnm (k : Int) (l : List MAsk) (n : Int) : (inq k 0 5 = true /\ testsOk l = true /\ inq n 1 10000 = true /\ batNew k l n = (k, n, l.map newT, 1, [], [])) ∨ (batNew k l n = batNone /\ (inq k 0 5 && (testsOk l && inq n 1 10000)) = false) := by
 unfold batNew
 cases h : (inq k 0 5 && (testsOk l && inq n 1 10000))
 ·exact .inr ⟨rfl, rfl⟩
 ·simp only [Bool.and_eq_true] at h
  exact .inl ⟨h.1, h.2.1, h.2.2, rfl⟩
theorem Qrw {k n : Int} {l : List MAsk} (h1 : inq k 0 5 = true) (h2 : testsOk l = true) (h3 : inq n 1 10000 = true) : batOk (k, n, l.map newT, 1, [], []) = true := by
 have h4 := h2
 unfold testsOk at h4
 rw [Bool.and_eq_true] at h4
 have hlen : inq ((l.map newT).length : Int) 1 4 = true := by rw [List.length_map]; exact h4.1
 have hr : tstsOk none (l.map newT) = true := (Qnl l none).trans h4.2
 unfold batOk batOkA
 show ((inq k 0 5 && (inq n 1 10000 && (inq ((l.map newT).length : Int) 1 4 && (inq 1 1 4 && (tstsOk none (l.map newT) && (decide (([] : List MSig).length <= 6) && (([] : List MSig).all sigOk && decide (([] : List Bool).length <= 3)))))))) && (!freed 1 || _)) = true
 rw [h1, h3, hlen, hr]; rfl
end Go.Vm

set_option linter.unusedVariables false
set_option linter.unusedSimpArgs false
namespace Go.Vm
theorem Qrx {α : Type} (xs : List α) (p : α -> Bool) (z : Bool) (F : Nat -> Nat -> Option (Bool × Unit)) (hend : ∃ k, F k xs.length = some (z, ()))
  (hstep : ∀ k i x r, xs.drop i = x :: r -> i < xs.length -> F (k + 1) i = bif p x then some (true, ()) else F k (i + 1)) : ∃ k, F k 0 = some (xs.any p || z, ()) := by
 have go : ∀ (m i : Nat), i + m = xs.length -> ∃ k, F k i = some ((xs.drop i).any p || z, ()) := by
  intro m
  induction m with
  | zero =>
   intro i h
   have : i = xs.length := by omega
   subst this
   rw [List.drop_length]
   exact hend
  | succ m ih =>
   intro i h
   have hi : i < xs.length := by omega
   have hd := List.drop_eq_getElem_cons hi
   cases hp : p xs[i]
   ·obtain ⟨k, hk⟩ := ih (i + 1) (by omega)
    refine ⟨k + 1, ?_⟩
    rw [hstep k i _ _ hd hi, hd, hp, hk, List.any_cons, hp]; rfl
   ·refine ⟨1, ?_⟩
    rw [hstep 0 i _ _ hd hi, hd, hp, List.any_cons, hp]; rfl
 have := go xs.length 0 (by omega)
 rw [List.drop_zero] at this
 exact this
def mixW (m n : Int) : Int := Int.tmod (w64 (w64 (w64 (w64 (m * 8191) + Int.tmod n 999983) + 999983) + 7)) 999983
theorem Qdi {m n : Int} (h : mkR m) : mixW m n = mix m n := mix_w h
def sigsOk (b : MBat) : Bool := b.2.2.2.2.1.all sigOk
theorem Ql6 {s : MSig} : sigOk s = true ↔ (1 <= s.1 /\ s.1 <= 5) /\ signs s.2.1 = true /\ (0 <= s.2.2 /\ s.2.2 <= 999982) := by
 unfold sigOk; rw [Bool.and_eq_true, Bool.and_eq_true, Qar, Qar]
theorem Qp2 {b : MBat} (h : sigsOk b = true) : hands b = b.2.2.2.2.1.any (fun s => decide (1 <= s.1) && (decide (s.1 <= 5) && hand1 b s)) := by
 unfold hands
 rw [Bool.eq_iff_iff, List.any_eq_true, List.any_eq_true]
 constructor
 ·rintro ⟨s, hs, h1⟩
  have h2 := (Ql6.1 (List.all_eq_true.1 h s hs)).1
  exact ⟨s, hs, by rw [h1, decide_eq_true h2.1, decide_eq_true h2.2]; rfl⟩
 ·rintro ⟨s, hs, h1⟩
  simp only [Bool.and_eq_true] at h1
  exact ⟨s, hs, h1.2.2⟩
theorem Qp3 (b : MBat) {u : Int} (hu : u <= 5) : (b.2.2.2.2.1.any (fun s => decide (s.1 = u) && hand1 b s) || b.2.2.2.2.1.any (fun s => decide (u + 1 <= s.1) && (decide (s.1 <= 5) && hand1 b s))) = b.2.2.2.2.1.any (fun s => decide (u <= s.1) && (decide (s.1 <= 5) && hand1 b s)) := by
 rw [Bool.eq_iff_iff, Bool.or_eq_true, List.any_eq_true, List.any_eq_true, List.any_eq_true]
 simp only [Bool.and_eq_true, decide_eq_true_eq]
 constructor
 ·rintro (⟨s, hs, h1, h2⟩ | ⟨s, hs, h1, h2, h3⟩)
  ·exact ⟨s, hs, by omega, by omega, h2⟩
  ·exact ⟨s, hs, by omega, h2, h3⟩
 ·rintro ⟨s, hs, h1, h2, h3⟩
  by_cases e : s.1 = u
  ·exact .inl ⟨s, hs, e, h3⟩
  ·exact .inr ⟨s, hs, by omega, h2, h3⟩
theorem Qp4 (b : MBat) : b.2.2.2.2.1.any (fun s => decide ((6 : Int) <= s.1) && (decide (s.1 <= 5) && hand1 b s)) = false := by
 rw [Bool.eq_false_iff]
 intro h
 obtain ⟨s, hs, h1⟩ := List.any_eq_true.1 h
 simp only [Bool.and_eq_true, decide_eq_true_eq] at h1
 omega
theorem Qbf {b : MBat} : batOk b = true ↔ ((0 <= b.1 /\ b.1 <= 5) /\ (1 <= b.2.1 /\ b.2.1 <= 10000) /\ (1 <= b.2.2.1.length /\ b.2.2.1.length <= 4) /\ (1 <= b.2.2.2.1 /\ b.2.2.2.1 <= 4) /\ tstsOk none b.2.2.1 = true /\ b.2.2.2.2.1.length <= 6 /\ sigsOk b = true /\ b.2.2.2.2.2.length <= 3) /\ (freed b.2.2.2.1 = true -> gate b = true) := by
 unfold batOk batOkA sigsOk
 simp only [Bool.and_eq_true, Bool.or_eq_true, Qar, decide_eq_true_eq, Bool.not_eq_true']
 constructor
 ·rintro ⟨⟨h1, h2, h3, h4, h5, h6, h7, h8⟩, h9⟩
  exact ⟨⟨h1, h2, by omega, h4, h5, h6, h7, h8⟩, fun hf => h9.resolve_left (by rw [hf]; decide)⟩
 ·rintro ⟨⟨h1, h2, h3, h4, h5, h6, h7, h8⟩, h9⟩
  refine ⟨⟨h1, h2, by omega, h4, h5, h6, h7, h8⟩, ?_⟩
  cases hf : freed b.2.2.2.1
  ·exact .inl rfl
  ·exact .inr (h9 hf)
theorem Qfx {α : Type} {ok : α -> Bool} {key : α -> Int} : ∀ {l : List α} {p : Option Int}, riseL ok key p l = true -> l.all ok = true
 | [], _, _ => rfl
 | t :: r, p, h => by
  unfold riseL at h
  simp only [Bool.and_eq_true] at h
  rw [List.all_cons, h.1, Qfx h.2.2]; rfl
theorem Qf9 {b : MBat} (h : batOk b = true) : smB b = true := by
 obtain ⟨⟨_, _, h3, _, h5, h6, _, h8⟩, _⟩ := Qbf.1 h
 refine Qbv.2 ⟨by omega, fun t ht => ?_, by omega, by omega⟩
 have := Qif (List.all_eq_true.1 (Qfx h5) t ht)
 omega
theorem Qdj {b : MBat} : isOpen b = true ↔ batOk b = true /\ b.2.2.2.1 = 1 := by
 unfold isOpen; rw [Bool.and_eq_true, decide_eq_true_eq]
theorem Qel (l : List MTst) (n : Int) : findT l n = -1 ∨ (0 <= findT l n /\ findT l n < l.length) := Qi8 _ l
end Go.Vm

set_option linter.unusedVariables false
set_option linter.unusedSimpArgs false
namespace Go.Vm
def houSm (h : MHou) : Bool := decide (h.1.length <= 4294967296) && (smS h.2.1 && (decide (h.2.2.length <= 4294967296) && h.2.2.all smB))
theorem Qez {h : MHou} : houSm h = true ↔ h.1.length <= 4294967296 /\ smS h.2.1 = true /\ h.2.2.length <= 4294967296 /\ ∀ b ∈ h.2.2, smB b = true := by
 unfold houSm; simp only [Bool.and_eq_true, decide_eq_true_eq, List.all_eq_true]
theorem Qbs {h : MHou} : houOk h = true ↔ rolesOk h.1 = true /\ spcsOk h.2.1 = true /\ h.2.2.length <= 4 /\ ∀ b ∈ h.2.2, batIn h.1 h.2.1 b = true := by
 unfold houOk; simp only [Bool.and_eq_true, decide_eq_true_eq, List.all_eq_true]
theorem Qgh {l : List Int} : rolesOk l = true ↔ (1 <= l.length /\ l.length <= 5) /\ ∀ o ∈ l, inq o 1 4 = true := by
 unfold rolesOk; simp only [Bool.and_eq_true, List.all_eq_true, Qar]
 constructor
 ·rintro ⟨h1, h2⟩; exact ⟨by omega, h2⟩
 ·rintro ⟨h1, h2⟩; exact ⟨by omega, h2⟩
theorem Qct {ro : List Int} {sp : List MSpc} {b : MBat} : batIn ro sp b = true ↔ batOk b = true /\ b.1 < (sp.length : Int) /\ (sp.getD b.1.toNat spc0).2 ≠ 1 /\ b.2.2.1.map (·.1) = (sp.getD b.1.toNat spc0).1 /\ ∀ s ∈ b.2.2.2.2.1, sigIn ro s = true := by
 unfold batIn; simp only [Bool.and_eq_true, decide_eq_true_eq, Bool.not_eq_true', decide_eq_false_iff_not, Qbm, List.all_eq_true]
theorem Qry {ro : List Int} {s : MSig} : sigIn ro s = true ↔ s.1 <= (ro.length : Int) /\ ro.getD (s.1 - 1).toNat 0 = s.2.1 := by
 unfold sigIn; simp only [Bool.and_eq_true, decide_eq_true_eq]
theorem Qp5 {t : MTst} {w : Int} {v : MDec} {c : Int} (h : (tstTurn t w v c).2 = false) : (tstTurn t w v c).1 = t := by
 unfold tstTurn at h ⊢
 split
 ·rename_i h1; rw [if_pos h1] at h; exact Qic h
 ·rename_i h1
  rw [if_neg h1] at h
  split
  ·rename_i h2; rw [if_pos h2] at h; exact Qgf h
  ·rename_i h2
   rw [if_neg h2] at h
   split
   ·rename_i h3; rw [if_pos h3] at h; exact Qe5 h
   ·rfl
theorem Qih {α : Type} {c : Bool} {a b : α} (h : (bif c then (a, true) else (b, false) : α × Bool).2 = false) : (bif c then (a, true) else (b, false) : α × Bool).1 = b := by
 cases c
 ·rfl
 ·cases h
theorem Qp6 {b : MBat} {u r : Int} (h : (batSign b u r).2 = false) : (batSign b u r).1 = b := Qih h
theorem Qe7 {b : MBat} {s : Int} (h : (batMove b s).2 = false) : (batMove b s).1 = b := Qih h
theorem Ql7 {b : MBat} {k : Int} {o : Bool} (h : (batDev b k o).2 = false) : (batDev b k o).1 = b := Qih h
theorem Qhf {b : MBat} {n w : Int} {v : MDec} {c : Int} (h : (batTest b n w v c).2 = false) : (batTest b n w v c).1 = b := by
 unfold batTest at h ⊢
 cases hc : (isOpen b && !decide (findT b.2.2.1 n < 0))
 ·rfl
 ·rw [hc] at h
  have h : (tstTurn (b.2.2.1.getD (findT b.2.2.1 n).toNat t0) w v c).2 = false := h
  simp only [Bool.and_eq_true, Bool.not_eq_true', decide_eq_false_iff_not] at hc
  have hr := Qel b.2.2.1 n
  have hi : (findT b.2.2.1 n).toNat < b.2.2.1.length := by omega
  show (b.1, b.2.1, b.2.2.1.set _ (tstTurn _ w v c).1, b.2.2.2.1, b.2.2.2.2.1, b.2.2.2.2.2) = b
  rw [Qp5 h]
  have : b.2.2.1.set (findT b.2.2.1 n).toNat (b.2.2.1.getD (findT b.2.2.1 n).toNat t0) = b.2.2.1 := by
   refine Qfv ?_
   rw [List.getD_eq_getElem?_getD, List.getElem?_eq_getElem hi]; rfl
  rw [this]
theorem Qp7 {b : MBat} {r : MReq} {o : Int} (h : (batTurn b r o).2 = false) : (batTurn b r o).1 = b := by
 revert h
 unfold batTurn
 split
 ·exact Qhf
 ·split
  ·exact Qhf
  ·split
   ·exact Qhf
   ·split
    ·exact Ql7
    ·split
     ·exact Ql7
     ·split
      ·exact Qp6
      ·split
       ·exact Qe7
       ·split
        ·exact Qe7
        ·exact Qe7
theorem Ql8 {l : List MSpc} {t : List MAsk} (h : (spcAdd l t).2 = false) : (spcAdd l t).1 = l := Qih h
theorem Qjb {l : List MSpc} {k : Int} (h : (spcRaise l k).2 = false) : (spcRaise l k).1 = l := Qih h
theorem Qt2 {l : List MBat} {i : Int} {b : MBat} (h1 : i.toNat < l.length) (h : b = l.getD i.toNat batNone) : l.set i.toNat b = l := by
 subst h
 refine Qfv ?_
 rw [List.getD_eq_getElem?_getD, List.getElem?_eq_getElem h1]; rfl
theorem Qii (l : List MSpc) : spcNow l = -1 ∨ (0 <= spcNow l /\ spcNow l < l.length) := Qi8 _ l
theorem Qjy {l : List MBat} {i : Int} (h1 : 0 <= i) (h2 : i < l.length) : l.getD i.toNat batNone ∈ l := by
 have h : i.toNat < l.length := by omega
 rw [List.getD_eq_getElem?_getD, List.getElem?_eq_getElem h]
 exact List.getElem_mem h
theorem Qnn {l : List MSpc} {i : Int} (h1 : 0 <= i) (h2 : i < l.length) : l.getD i.toNat spc0 ∈ l := by
 have h : i.toNat < l.length := by omega
 rw [List.getD_eq_getElem?_getD, List.getElem?_eq_getElem h]
 exact List.getElem_mem h
theorem Qs9 {h : MHou} (hk : houOk h = true) : houSm h = true := by
 obtain ⟨h1, h2, h3, h4⟩ := Qbs.1 hk
 have h1 := (Qgh.1 h1).1
 obtain ⟨g1, g2, _⟩ := Qco.1 h2
 refine Qez.2 ⟨by omega, Qee.2 ⟨by omega, fun s hs => ?_⟩, by omega, fun b hb => Qf9 (Qct.1 (h4 b hb)).1⟩
 have := g2 s hs
 unfold spcOk1 at this
 have := Qgg (Bool.and_eq_true_iff.1 this).1
 omega
theorem Ql9 {r : MReq} : reqOk r = true ↔ inq r.2.1 1 12 = true /\ inq r.1 1 5 = true /\ (r.2.2.1 = 0 ∨ (hasB r.2.1 = true /\ inq r.2.2.1 0 9 = true)) /\ (r.2.2.2.2.1 = 0 ∨ (hasN r.2.1 = true /\ inq r.2.2.2.2.1 0 10000 = true)) /\ (r.2.2.2.2.2.1 = (0, 0) ∨ (hasV r.2.1 = true /\ decOk r.2.2.2.2.2.1 = true)) /\
  (bif hasT r.2.1 then inq r.2.2.2.1 1 4 else decide (r.2.2.2.1 = 0)) = true /\ (bif decide (r.2.1 = 1) then testsOk r.2.2.2.2.2.2 else decide (r.2.2.2.2.2.2.length = 0)) = true := by
 unfold reqOk; simp only [Bool.and_eq_true, Bool.or_eq_true, decide_eq_true_eq, Qbm]
noncomputable def houTakeN (h : MHou) (n : Int) : MHou × Int :=
 if spcNow h.2.1 < 0 then (h, 4) else if h.2.2.length = 4 then (h, 6) else if n = 0 then (h, 5) else
  ((h.1, h.2.1, h.2.2 ++ [batNew (spcNow h.2.1) (h.2.1.getD (spcNow h.2.1).toNat spc0).1 n]), 1)
end Go.Vm

set_option linter.unusedVariables false
set_option linter.unusedSimpArgs false
namespace Go.Vm
theorem Qno {α : Type} {ok : α -> Bool} {key : α -> Int} : ∀ {l : List α} {p : Option Int} {i : Nat} {t : α}, riseL ok key p l = true -> ok t = true -> (∀ x, l[i]? = some x -> key t = key x) -> riseL ok key p (l.set i t) = true
 | [], p, i, t, h, _, _ => h
 | x :: r, p, 0, t, h, h1, h2 => by
  have h2 := h2 x rfl
  unfold riseL at h
  simp only [Bool.and_eq_true] at h
  show (ok t && (rises p (key t) && riseL ok key (some (key t)) r)) = true
  rw [h1, h2, h.2.1, h.2.2]; rfl
 | x :: r, p, i + 1, t, h, h1, h2 => by
  unfold riseL at h
  simp only [Bool.and_eq_true] at h
  show (ok x && (rises p (key x) && riseL ok key (some (key x)) (r.set i t))) = true
  rw [h.1, h.2.1, Qno h.2.2 h1 (fun y hy => h2 y hy)]; rfl
theorem Qp8 {t : MTst} {w : Int} {v : MDec} {c : Int} (h : tstOk t = true) : tstOk (tstTurn t w v c).1 = true /\ (tstTurn t w v c).1.1 = t.1 := by
 have hp : ∀ v, tstOk (tstPut t v).1 = true /\ (tstPut t v).1.1 = t.1 := fun v => by
  cases hc : (tstPut t v).2
  ·rw [Qic hc]; exact ⟨h, rfl⟩
  ·exact ⟨(Qe6 hc).2, by rw [(Qe6 hc).1]; rfl⟩
 have hca : ∀ c, tstOk (tstCause t c).1 = true /\ (tstCause t c).1.1 = t.1 := fun c => by
  cases hc : (tstCause t c).2
  ·rw [Qgf hc]; exact ⟨h, rfl⟩
  ·exact ⟨(Qd7 hc).2, by rw [(Qd7 hc).1]; rfl⟩
 have hm : ∀ v, tstOk (tstMore t v).1 = true /\ (tstMore t v).1.1 = t.1 := fun v => by
  cases hc : (tstMore t v).2
  ·rw [Qe5 hc]; exact ⟨h, rfl⟩
  ·exact ⟨(Qdm hc).2, by rw [(Qdm hc).1]; rfl⟩
 unfold tstTurn
 split
 ·exact hp v
 ·split
  ·exact hca c
  ·split
   ·exact hm v
   ·exact ⟨h, rfl⟩
structure TurnOk (b b' : MBat) (u o : Int) : Prop where
 ok : batOk b' = true
 spec : b'.1 = b.1
 boxes : b'.2.1 = b.2.1
 asks : b'.2.2.1.map (·.1) = b.2.2.1.map (·.1)
 sigs : ∀ s ∈ b'.2.2.2.2.1, s ∈ b.2.2.2.2.1 ∨ (s.1 = u /\ s.2.1 = o)
theorem TurnOk.self {b : MBat} {u o : Int} (h : batOk b = true) : TurnOk b b u o := ⟨h, rfl, rfl, rfl, fun s hs => .inl hs⟩
theorem Qlg {l : List MTst} {i : Nat} (h : i < l.length) : l[i]? = some (l.getD i t0) := by
 rw [List.getD_eq_getElem?_getD, List.getElem?_eq_getElem h]; rfl
theorem Qjz {b : MBat} (h : isOpen b = true) : batOk b = true /\ b.2.2.2.1 = 1 := Qdj.1 h
theorem Qe8 {b : MBat} {n w : Int} {v : MDec} {c u o : Int} (h : batOk b = true) : TurnOk b (batTest b n w v c).1 u o := by
 unfold batTest
 cases hc : (isOpen b && !decide (findT b.2.2.1 n < 0))
 ·exact TurnOk.self h
 ·simp only [Bool.and_eq_true, Bool.not_eq_true', decide_eq_false_iff_not] at hc
  obtain ⟨ho, hf⟩ := hc
  have hr := (Qel b.2.2.1 n).resolve_left (by omega)
  have hi : (findT b.2.2.1 n).toNat < b.2.2.1.length := by omega
  obtain ⟨⟨h1, h2, h3, h4, h5, h6, h7, h8⟩, _⟩ := Qbf.1 h
  have hs := (Qjz ho).2
  have hmem : b.2.2.1.getD (findT b.2.2.1 n).toNat t0 ∈ b.2.2.1 := by
   rw [List.getD_eq_getElem?_getD, List.getElem?_eq_getElem hi]
   exact List.getElem_mem hi
  obtain ⟨g1, g2⟩ := Qp8 (w := w) (v := v) (c := c) (List.all_eq_true.1 (Qfx h5) _ hmem)
  refine ⟨Qbf.2 ⟨⟨h1, h2, ?_, h4, ?_, h6, h7, h8⟩, fun hf => ?_⟩, rfl, rfl, ?_, fun s hs => .inl hs⟩
  ·show 1 <= (b.2.2.1.set _ _).length /\ (b.2.2.1.set _ _).length <= 4
   rw [List.length_set]; exact h3
  ·refine Qno h5 g1 fun x hx => ?_
   rw [Qlg hi] at hx
   show (tstTurn (b.2.2.1.getD (findT b.2.2.1 n).toNat t0) w v c).1.1.1 = x.1.1
   rw [g2, Option.some.inj hx]
  ·have hf : freed b.2.2.2.1 = true := hf
   rw [hs] at hf; cases hf
  ·show (b.2.2.1.set _ _).map (·.1) = _
   rw [List.map_set, g2]
   refine Qfv ?_
   rw [List.getElem?_map, Qlg hi]; rfl
theorem Qma {b : MBat} {k : Int} {d : Bool} {u o : Int} (h : batOk b = true) : TurnOk b (batDev b k d).1 u o := by
 unfold batDev
 cases hc : (isOpen b && (bif d then decide (k = b.2.2.2.2.2.length) && decide (k < 3) else inq k 0 ((b.2.2.2.2.2.length : Int) - 1) && b.2.2.2.2.2.getD k.toNat false))
 ·exact TurnOk.self h
 ·rw [Bool.and_eq_true] at hc
  obtain ⟨ho, hd⟩ := hc
  obtain ⟨⟨h1, h2, h3, h4, h5, h6, h7, h8⟩, _⟩ := Qbf.1 h
  have hs := (Qjz ho).2
  refine ⟨Qbf.2 ⟨⟨h1, h2, h3, h4, h5, h6, h7, ?_⟩, fun hf => ?_⟩, rfl, rfl, rfl, fun s hs => .inl hs⟩
  ·show (bif d then b.2.2.2.2.2 ++ [true] else b.2.2.2.2.2.set k.toNat false).length <= 3
   cases d
   ·show (b.2.2.2.2.2.set k.toNat false).length <= 3
    rw [List.length_set]; exact h8
   ·simp only [cond_true, Bool.and_eq_true, decide_eq_true_eq] at hd
    show (b.2.2.2.2.2 ++ [true]).length <= 3
    rw [List.length_append]; show b.2.2.2.2.2.length + 1 <= 3; omega
  ·have hf : freed b.2.2.2.1 = true := hf
   rw [hs] at hf; cases hf
theorem Qp9 {b : MBat} {u o : Int} (h : batOk b = true) : TurnOk b (batSign b u o).1 u o := by
 unfold batSign
 cases hc : (isOpen b && (inq u 1 5 && (signs o && !decide (b.2.2.2.2.1.length = 6))))
 ·exact TurnOk.self h
 ·simp only [Bool.and_eq_true, Bool.not_eq_true', decide_eq_false_iff_not] at hc
  obtain ⟨ho, hu, hr, hl⟩ := hc
  obtain ⟨⟨h1, h2, h3, h4, h5, h6, h7, h8⟩, _⟩ := Qbf.1 h
  have hs := (Qjz ho).2
  have hm := Qru b
  refine ⟨Qbf.2 ⟨⟨h1, h2, h3, h4, h5, ?_, ?_, h8⟩, fun hf => ?_⟩, rfl, rfl, rfl, fun s hs => ?_⟩
  ·show (b.2.2.2.2.1 ++ [_]).length <= 6
   rw [List.length_append]; show b.2.2.2.2.1.length + 1 <= 6; omega
  ·show (b.2.2.2.2.1 ++ [(u, o, batMark b)]).all sigOk = true
   have h7 : b.2.2.2.2.1.all sigOk = true := h7
   rw [List.all_append, h7]
   show (sigOk (u, o, batMark b) && true) = true
   have : sigOk (u, o, batMark b) = true := Ql6.2 ⟨Qar.1 hu, hr, hm.1, by have := hm.2; show batMark b <= 999982; omega⟩
   rw [this]; rfl
  ·have hf : freed b.2.2.2.1 = true := hf
   rw [hs] at hf; cases hf
  ·rcases List.mem_append.1 hs with hs | hs
   ·exact .inl hs
   ·rw [List.mem_singleton.1 hs]; exact .inr ⟨rfl, rfl⟩
theorem Qqa (b : MBat) (s : Int) : gate (b.1, b.2.1, b.2.2.1, s, b.2.2.2.2.1, b.2.2.2.2.2) = gate b := rfl
theorem Qgi {b : MBat} {s : Int} : (batMove b s).2 = true ↔ batOk b = true /\ ((b.2.2.2.1 = 1 /\ (s = 3 ∨ (s = 2 /\ gate b = true))) ∨ (b.2.2.2.1 = 2 /\ s = 4)) := by
 unfold batMove
 cases hc : (batOk b && ((decide (b.2.2.2.1 = 1) && (decide (s = 3) || (decide (s = 2) && gate b))) || (decide (b.2.2.2.1 = 2) && decide (s = 4))))
 ·constructor
  ·intro h; cases h
  ·intro h
   have : (batOk b && ((decide (b.2.2.2.1 = 1) && (decide (s = 3) || (decide (s = 2) && gate b))) || (decide (b.2.2.2.1 = 2) && decide (s = 4)))) = true := by
    simp only [Bool.and_eq_true, Bool.or_eq_true, decide_eq_true_eq]; exact h
   rw [hc] at this; cases this
 ·simp only [Bool.and_eq_true, Bool.or_eq_true, decide_eq_true_eq] at hc
  exact ⟨fun _ => hc, fun _ => rfl⟩
theorem Qgj {b : MBat} {s : Int} (h : (batMove b s).2 = true) : (batMove b s).1 = (b.1, b.2.1, b.2.2.1, s, b.2.2.2.2.1, b.2.2.2.2.2) := by
 unfold batMove at h ⊢
 cases hc : (batOk b && ((decide (b.2.2.2.1 = 1) && (decide (s = 3) || (decide (s = 2) && gate b))) || (decide (b.2.2.2.1 = 2) && decide (s = 4))))
 ·rw [hc] at h; cases h
 ·rfl
theorem Qhg {b : MBat} {s u o : Int} (h : batOk b = true) : TurnOk b (batMove b s).1 u o := by
 cases hc : (batMove b s).2
 ·rw [Qe7 hc]; exact TurnOk.self h
 ·rw [Qgj hc]
  obtain ⟨_, hm⟩ := Qgi.1 hc
  obtain ⟨⟨h1, h2, h3, h4, h5, h6, h7, h8⟩, hg⟩ := Qbf.1 h
  refine ⟨Qbf.2 ⟨⟨h1, h2, h3, ?_, h5, h6, h7, h8⟩, fun hf => ?_⟩, rfl, rfl, rfl, fun s hs => .inl hs⟩
  ·show 1 <= s /\ s <= 4
   rcases hm with ⟨_, h | ⟨h, _⟩⟩ | ⟨_, h⟩ <;> omega
  ·rw [Qqa]
   rcases hm with ⟨_, hs | ⟨_, hs⟩⟩ | ⟨hs, _⟩
   ·have hf : freed s = true := hf
    rw [hs] at hf; cases hf
   ·exact hs
   ·exact hg (by rw [hs]; rfl)
theorem Qkt {b : MBat} {r : MReq} {o : Int} (h : batOk b = true) : TurnOk b (batTurn b r o).1 r.1 o := by
 unfold batTurn
 split
 ·exact Qe8 h
 ·split
  ·exact Qe8 h
  ·split
   ·exact Qe8 h
   ·split
    ·exact Qma h
    ·split
     ·exact Qma h
     ·split
      ·exact Qp9 h
      ·split
       ·exact Qhg h
       ·split
        ·exact Qhg h
        ·exact Qhg h
theorem Qqb {l : List MSpc} {t : List MAsk} : (spcAdd l t).2 = true ↔ spcsOk l = true /\ testsOk t = true /\ l.length ≠ 6 := by
 unfold spcAdd
 cases hc : (spcsOk l && (testsOk t && !decide (l.length = 6)))
 ·constructor
  ·intro h; cases h
  ·rintro ⟨h1, h2, h3⟩
   rw [h1, h2, decide_eq_false h3] at hc; cases hc
 ·simp only [Bool.and_eq_true, Bool.not_eq_true', decide_eq_false_iff_not] at hc
  exact ⟨fun _ => hc, fun _ => rfl⟩
theorem Qqc {l : List MSpc} {t : List MAsk} (h : (spcAdd l t).2 = true) : (spcAdd l t).1 = l ++ [(t, 1)] := by
 unfold spcAdd at h ⊢
 cases hc : (spcsOk l && (testsOk t && !decide (l.length = 6)))
 ·rw [hc] at h; cases h
 ·rfl
theorem Qnp {l : List MSpc} {k : Int} : (spcRaise l k).2 = true ↔ spcsOk l = true /\ (0 <= k /\ k < l.length) /\ (l.getD k.toNat spc0).2 = 1 := by
 unfold spcRaise
 cases hc : (spcsOk l && (inq k 0 ((l.length : Int) - 1) && decide ((l.getD k.toNat ([], 0)).2 = 1)))
 ·constructor
  ·intro h; cases h
  ·rintro ⟨h1, h2, h3⟩
   have h3 : (l.getD k.toNat ([], 0)).2 = 1 := h3
   rw [h1, Qar.2 ⟨h2.1, by omega⟩, decide_eq_true h3] at hc; cases hc
 ·simp only [Bool.and_eq_true, decide_eq_true_eq] at hc
  have := Qar.1 hc.2.1
  exact ⟨fun _ => ⟨hc.1, ⟨this.1, by omega⟩, hc.2.2⟩, fun _ => rfl⟩
theorem Qfy {l : List MSpc} {k : Int} (h : (spcRaise l k).2 = true) : (spcRaise l k).1 = (l.map retire).set k.toNat ((l.getD k.toNat spc0).1, 2) := by
 unfold spcRaise at h ⊢
 cases hc : (spcsOk l && (inq k 0 ((l.length : Int) - 1) && decide ((l.getD k.toNat ([], 0)).2 = 1)))
 ·rw [hc] at h; cases h
 ·rfl
theorem Qqd {l : List MSpc} {k : Int} (h : (spcRaise l k).2 = true) : spcsOk (spcRaise l k).1 = true := by
 cases hc : (spcsOk l && (inq k 0 ((l.length : Int) - 1) && decide ((l.getD k.toNat ([], 0)).2 = 1)))
 ·unfold spcRaise at h
  rw [hc] at h; cases h
 ·rw [Qfy h]
  exact (Qs7 hc).2.2.2.2.1
theorem Qku {ro : List Int} {l m : List MSpc} {b : MBat} (h : batIn ro l b = true) (hm : ∀ i : Nat, i < l.length -> i < m.length /\ (m.getD i spc0).1 = (l.getD i spc0).1 /\ ((l.getD i spc0).2 ≠ 1 -> (m.getD i spc0).2 ≠ 1)) : batIn ro m b = true := by
 obtain ⟨h1, h2, h3, h4, h5⟩ := Qct.1 h
 have h0 := (Qbf.1 h1).1.1
 obtain ⟨g1, g2, g3⟩ := hm b.1.toNat (by omega)
 exact Qct.2 ⟨h1, by omega, g3 h3, by rw [g2]; exact h4, h5⟩
theorem Qnq (s : MSpc) (h : s.2 ≠ 1) : (retire s).2 ≠ 1 := by
 unfold retire
 cases decide (s.2 = 2)
 ·exact h
 ·show (3 : Int) ≠ 1; decide
theorem Qta {l : List MSpc} {f : MSpc -> MSpc} {i : Nat} (h : i < l.length) : (l.map f).getD i spc0 = f (l.getD i spc0) := by
 rw [List.getD_eq_getElem?_getD, List.getD_eq_getElem?_getD, List.getElem?_map, List.getElem?_eq_getElem h]; rfl
theorem Qnr {l : List MSpc} {k : Int} (h : (spcRaise l k).2 = true) {i : Nat} (hi : i < l.length) : i < (spcRaise l k).1.length /\ ((spcRaise l k).1.getD i spc0).1 = (l.getD i spc0).1 /\ ((l.getD i spc0).2 ≠ 1 -> ((spcRaise l k).1.getD i spc0).2 ≠ 1) := by
 rw [Qfy h]
 have hl : ((l.map retire).set k.toNat ((l.getD k.toNat spc0).1, 2)).length = l.length := by rw [List.length_set, List.length_map]
 refine ⟨by rw [hl]; exact hi, ?_⟩
 by_cases e : k.toNat = i
 ·subst e
  have : ((l.map retire).set k.toNat ((l.getD k.toNat spc0).1, 2)).getD k.toNat spc0 = ((l.getD k.toNat spc0).1, 2) := by
   rw [List.getD_eq_getElem?_getD, List.getElem?_set_self (by rw [List.length_map]; exact hi)]; rfl
  rw [this]
  exact ⟨rfl, fun _ => by show (2 : Int) ≠ 1; decide⟩
 ·have : ((l.map retire).set k.toNat ((l.getD k.toNat spc0).1, 2)).getD i spc0 = retire (l.getD i spc0) := by
   rw [List.getD_eq_getElem?_getD, List.getElem?_set_ne e, <- List.getD_eq_getElem?_getD, Qta hi]
  rw [this]
  exact ⟨Qd6 _, Qnq _⟩
theorem Qjc {l : List MSpc} {x : MSpc} {i : Nat} (h : i < l.length) : (l ++ [x]).getD i spc0 = l.getD i spc0 := by
 rw [List.getD_eq_getElem?_getD, List.getD_eq_getElem?_getD, List.getElem?_append_left h]
theorem Qmb {α : Type} {p : α -> Bool} : ∀ {l : List α} {k : Nat} {i : Int}, idxOf p l k = i -> 0 <= i -> ∃ x, l[(i - k).toNat]? = some x /\ p x = true /\ (k : Int) <= i
 | [], k, i, h, h0 => by
  have : (-1 : Int) = i := h
  omega
 | y :: r, k, i, h, h0 => by
  have e : idxOf p (y :: r) k = bif p y then (k : Int) else idxOf p r (k + 1) := rfl
  rw [e] at h
  cases hp : p y
  ·rw [hp] at h
   obtain ⟨x, h1, h2, h3⟩ := Qmb (l := r) (k := k + 1) h h0
   refine ⟨x, ?_, h2, by omega⟩
   have : (i - (k : Int)).toNat = (i - ((k + 1 : Nat) : Int)).toNat + 1 := by omega
   rw [this]; exact h1
  ·rw [hp] at h
   have h : (k : Int) = i := h
   refine ⟨y, ?_, hp, by omega⟩
   have : (i - (k : Int)).toNat = 0 := by omega
   rw [this]; rfl
theorem Qns {l : List MSpc} (h : 0 <= spcNow l) : (l.getD (spcNow l).toNat spc0).2 = 2 := by
 obtain ⟨x, h1, h2, _⟩ := Qmb (p := fun s : MSpc => decide (s.2 = 2)) (l := l) (k := 0) (i := spcNow l) rfl h
 have e : (spcNow l - ((0 : Nat) : Int)).toNat = (spcNow l).toNat := by omega
 rw [e] at h1
 rw [List.getD_eq_getElem?_getD, h1]
 exact of_decide_eq_true h2
end Go.Vm

set_option linter.unusedVariables false
set_option linter.unusedSimpArgs false
namespace Go.Vm
theorem Qt3 {t : MTst} {v : MDec} (h : (tstPut t v).2 = true) : (tstPut t v).1.2.1 = (if spcIn t.1 v = true then 3 else 1) /\ (tstPut t v).1.2.2.1 = v /\ tstOk (tstPut t v).1 = true /\ (tstPut (tstPut t v).1 v).2 = false := by
 obtain ⟨h1, h2, h3⟩ := Qe4.1 h
 obtain ⟨e, hok⟩ := Qe6 h
 obtain ⟨w1, w2, w3⟩ := Qng h1 h2
 have hst : (tstPut t v).1.2.1 = (if spcIn t.1 v = true then 3 else 1) := by
  rw [e]
  show stateOf (t.1, 0, v, t.2.2.2.1, t.2.2.2.2) = _
  unfold stateOf
  rw [if_pos (show t.2.2.2.1 = 0 from w2)]
 refine ⟨hst, by rw [e]; rfl, hok, ?_⟩
 cases hc : (tstPut (tstPut t v).1 v).2
 ·rfl
 ·have := (Qe4.1 hc).2.1
  rw [hst] at this
  split at this <;> omega
theorem Qrz {t : MTst} {c : Int} (h : (tstCause t c).2 = true) : t.2.1 = 1 /\ (tstCause t c).1.2.1 = (if c = 3 then 4 else 2) /\ (tstCause t c).1.2.2.1 = t.2.2.1 /\ (tstCause t c).1.2.2.2.1 = c /\ (tstCause t c).1.2.2.2.2 = [] /\ tstOk (tstCause t c).1 = true /\ (tstCause (tstCause t c).1 c).2 = false := by
 obtain ⟨h1, h2, h3⟩ := Qfw.1 h
 obtain ⟨e, hok⟩ := Qd7 h
 obtain ⟨w1, w2, w3⟩ := Qrt h1 h2
 have hc3 := Qar.1 h3
 have hst : (tstCause t c).1.2.1 = (if c = 3 then 4 else 2) := by
  rw [e]
  show stateOf (t.1, 0, t.2.2.1, c, t.2.2.2.2) = _
  unfold stateOf
  rw [if_neg (show ¬ c = 0 by omega)]
  by_cases h3 : c = 3
  ·rw [if_pos h3, if_pos h3]
  ·rw [if_neg h3, if_neg h3]
   have : ((t.2.2.2.2.length : Nat) : Int) < need c := by
    rw [w3]
    rcases (show c = 1 ∨ c = 2 by omega) with rfl | rfl <;> decide
   exact if_pos this
 refine ⟨h2, hst, by rw [e]; rfl, by rw [e]; rfl, by rw [e]; exact w3, hok, ?_⟩
 cases hc : (tstCause (tstCause t c).1 c).2
 ·rfl
 ·have := (Qfw.1 hc).2.1
  rw [hst] at this
  split at this <;> omega
theorem Qtb {t : MTst} {v : MDec} (h : (tstMore t v).2 = true) : t.2.1 = 2 /\ (tstMore t v).1.2.2.2.2 = t.2.2.2.2 ++ [v] /\ (tstMore t v).1.2.2.1 = t.2.2.1 /\ (tstMore t v).1.2.2.2.1 = t.2.2.2.1 /\ tstOk (tstMore t v).1 = true /\
  (((t.2.2.2.2.length : Int) + 1 < need t.2.2.2.1 /\ (tstMore t v).1.2.1 = 2) ∨ ((t.2.2.2.2.length : Int) + 1 = need t.2.2.2.1 /\ ((tstMore t v).1.2.1 = 3 ∨ (tstMore t v).1.2.1 = 4))) := by
 obtain ⟨h1, h2, h3⟩ := Qja.1 h
 obtain ⟨e, hok⟩ := Qdm h
 obtain ⟨w1, w2, w3, w4⟩ := Qni h1 h2
 refine ⟨h2, by rw [e]; rfl, by rw [e]; rfl, by rw [e]; rfl, hok, ?_⟩
 rw [e]
 show ((t.2.2.2.2.length : Int) + 1 < need t.2.2.2.1 /\ stateOf (t.1, 0, t.2.2.1, t.2.2.2.1, t.2.2.2.2 ++ [v]) = 2) ∨ ((t.2.2.2.2.length : Int) + 1 = need t.2.2.2.1 /\ (stateOf (t.1, 0, t.2.2.1, t.2.2.2.1, t.2.2.2.2 ++ [v]) = 3 ∨ stateOf (t.1, 0, t.2.2.1, t.2.2.2.1, t.2.2.2.2 ++ [v]) = 4))
 have hl : (((t.2.2.2.2 ++ [v]).length : Nat) : Int) = (t.2.2.2.2.length : Int) + 1 := by rw [List.length_append]; show ((t.2.2.2.2.length + 1 : Nat) : Int) = _; omega
 unfold stateOf
 rw [if_neg (show ¬ t.2.2.2.1 = 0 from w1), if_neg (show ¬ t.2.2.2.1 = 3 from w2)]
 by_cases hn : (t.2.2.2.2.length : Int) + 1 < need t.2.2.2.1
 ·refine .inl ⟨hn, if_pos ?_⟩
  show (((t.2.2.2.2 ++ [v]).length : Nat) : Int) < need t.2.2.2.1
  omega
 ·refine .inr ⟨by omega, ?_⟩
  rw [if_neg (show ¬ (((t.2.2.2.2 ++ [v]).length : Nat) : Int) < need t.2.2.2.1 by omega)]
  split
  ·exact .inl rfl
  ·exact .inr rfl
end Go.Vm



set_option linter.unusedVariables false
set_option linter.unusedSimpArgs false
namespace Go.Vm
abbrev MAud : Type := MReq × Int
def houNew (l : List Int) : MHou := bif rolesOk l then (l, [], []) else hou0
theorem Qr0 {l : List Int} (h : rolesOk l = true) : houOk (l, [], []) = true := Qbs.2 ⟨h, rfl, Nat.zero_le _, fun b hb => by cases hb⟩
theorem Qr1 {α β : Type} (xs : List α) (p : α -> Bool) (a b : β) (F : Nat -> Nat -> Option β) (hend : xs.all p = true -> ∃ k, F k xs.length = some a)
  (hstep : ∀ k i x r, xs.drop i = x :: r -> i < xs.length -> F (k + 1) i = bif p x then F k (i + 1) else some b) : ∃ k, F k 0 = some (bif xs.all p then a else b) := by
 have go : ∀ (m i : Nat), i + m = xs.length -> (xs.take i).all p = true -> ∃ k, F k i = some (bif (xs.drop i).all p then a else b) := by
  intro m
  induction m with
  | zero =>
   intro i h ha
   have : i = xs.length := by omega
   subst this
   rw [List.take_length] at ha
   rw [List.drop_length]
   exact hend ha
  | succ m ih =>
   intro i h ha
   have hi : i < xs.length := by omega
   have hd := List.drop_eq_getElem_cons hi
   cases hp : p xs[i]
   ·refine ⟨1, ?_⟩
    rw [hstep 0 i _ _ hd hi, hd, hp, List.all_cons, hp]; rfl
   ·obtain ⟨k, hk⟩ := ih (i + 1) (by omega) (by
     rw [List.take_succ_eq_append_getElem hi, List.all_append, ha]
     simp [hp])
    refine ⟨k + 1, ?_⟩
    rw [hstep k i _ _ hd hi, hd, hp, hk, List.all_cons, hp]; rfl
 simpa using go xs.length 0 (by omega) (by simp)
end Go.Vm


set_option linter.unusedVariables false
set_option linter.unusedSimpArgs false
namespace Go.Vm
def ReqG (r : MReq) : Prop := 0 <= r.2.2.1 /\ (r.2.1 = 3 -> 0 <= r.2.2.2.2.1 /\ r.2.2.2.2.1 <= 10000)
theorem Qod {h : MHou} {r : MReq} (hh : houOk h = true) (hr : ReqG r) (h3 : r.2.1 = 3) : houOk (houTake h r).1 = true := by
 obtain ⟨h1, h2, h33, h4⟩ := Qbs.1 hh
 unfold houTake
 split
 ·exact hh
 ·rename_i hn
  split
  ·exact hh
  ·rename_i hl
   split
   ·exact hh
   ·rename_i hz
    have hr0 := (Qii h.2.1).resolve_left (by omega)
    obtain ⟨g1, g2, _⟩ := Qco.1 h2
    have hmem := Qnn hr0.1 hr0.2
    have hok1 := g2 _ hmem
    unfold spcOk1 at hok1
    have ht := (Bool.and_eq_true_iff.1 hok1).1
    have hn' : inq r.2.2.2.2.1 1 10000 = true := Qar.2 ⟨by have := (hr.2 h3).1; omega, (hr.2 h3).2⟩
    have hk : inq (spcNow h.2.1) 0 5 = true := Qar.2 ⟨hr0.1, by omega⟩
    have hb : batNew (spcNow h.2.1) (h.2.1.getD (spcNow h.2.1).toNat spc0).1 r.2.2.2.2.1 = (spcNow h.2.1, r.2.2.2.2.1, (h.2.1.getD (spcNow h.2.1).toNat spc0).1.map newT, 1, [], []) := by
     unfold batNew; rw [hk, ht, hn']; rfl
    refine Qbs.2 ⟨h1, h2, ?_, fun b hm => ?_⟩
    ·show (h.2.2 ++ [_]).length <= 4
     rw [List.length_append]; show h.2.2.length + 1 <= 4; omega
    ·rcases List.mem_append.1 hm with hm | hm
     ·exact h4 b hm
     ·rw [List.mem_singleton.1 hm, hb]
      refine Qct.2 ⟨Qrw hk ht hn', hr0.2, ?_, ?_, fun s hs => by cases hs⟩
      ·show (h.2.1.getD (spcNow h.2.1).toNat spc0).2 ≠ 1
       rw [Qns hr0.1]; decide
      ·show (((h.2.1.getD (spcNow h.2.1).toNat spc0).1.map newT).map (·.1)) = (h.2.1.getD (spcNow h.2.1).toNat spc0).1
       rw [List.map_map]
       exact List.map_id' _
theorem Qoe {h : MHou} {r : MReq} (hh : houOk h = true) (hr : ReqG r) (hm : houMay h r = true) : houOk (houTurn h r).1 = true := by
 obtain ⟨h1, h2, h3, h4⟩ := Qbs.1 hh
 unfold houTurn
 split
 ·exact hh
 ·rename_i hl
  have h0 := hr.1
  have hmem := Qjy h0 (show r.2.2.1 < h.2.2.length by omega)
  obtain ⟨g1, g2, g3, g4, g5⟩ := Qct.1 (h4 _ hmem)
  have ht := Qkt (r := r) (o := roleOf h r) g1
  refine Qbs.2 ⟨h1, h2, by show (h.2.2.set _ _).length <= 4; rw [List.length_set]; exact h3, fun b hb => ?_⟩
  rcases List.mem_or_eq_of_mem_set hb with hb | hb
  ·exact h4 b hb
  ·rw [hb]
   refine Qct.2 ⟨ht.ok, by rw [ht.spec]; exact g2, by rw [ht.spec]; exact g3, by rw [ht.asks, ht.spec]; exact g4, fun s hs => ?_⟩
   rcases ht.sigs s hs with hs | ⟨e1, e2⟩
   ·exact g5 s hs
   ·unfold houMay at hm
    simp only [Bool.and_eq_true, decide_eq_true_eq] at hm
    refine Qry.2 ⟨by rw [e1]; exact hm.1, ?_⟩
    rw [e1, e2]; rfl
theorem Qr2 {h : MHou} {r : MReq} (hh : houOk h = true) (hr : ReqG r) : houOk (houGo h r).1 = true := by
 obtain ⟨h1, h2, h3, h4⟩ := Qbs.1 hh
 unfold houGo
 cases hm : houMay h r
 ·exact hh
 ·rw [cond_true]
  split
  ·cases hc : (spcAdd h.2.1 r.2.2.2.2.2.2).2
   ·show houOk (h.1, (spcAdd h.2.1 r.2.2.2.2.2.2).1, h.2.2) = true
    rw [Ql8 hc]; exact hh
   ·show houOk (h.1, (spcAdd h.2.1 r.2.2.2.2.2.2).1, h.2.2) = true
    rw [Qqc hc]
    obtain ⟨_, g2, g3⟩ := Qqb.1 hc
    have hlen := (Qco.1 h2).1
    refine Qbs.2 ⟨h1, Qpz h2 g2 (by omega), h3, fun b hb => Qku (h4 b hb) fun i hi => ?_⟩
    rw [Qjc hi]
    exact ⟨by rw [List.length_append]; omega, rfl, fun h => h⟩
  ·split
   ·split
    ·exact hh
    ·cases hc : (spcRaise h.2.1 r.2.2.2.2.1).2
     ·show houOk (h.1, (spcRaise h.2.1 r.2.2.2.2.1).1, h.2.2) = true
      rw [Qjb hc]; exact hh
     ·show houOk (h.1, (spcRaise h.2.1 r.2.2.2.2.1).1, h.2.2) = true
      refine Qbs.2 ⟨h1, ?_, h3, fun b hb => Qku (h4 b hb) fun i hi => Qnr hc hi⟩
      exact Qqd hc
   ·split
    ·rename_i h3; exact Qod hh hr h3
    ·exact Qoe hh hr hm
end Go.Vm

set_option linter.unusedVariables false
set_option linter.unusedSimpArgs false
namespace Go.Vm
theorem Qbg (a b : ByteArray) : (ByteArray.append a b).size = a.size + b.size := ByteArray.size_append
theorem Qbx (l : List UInt8) : (ByteArray.mk (Array.mk l)).size = l.length := rfl
theorem Qdk {a b : ByteArray} (h : a.size + b.size <= 4294967296) : fitS a b = true := decide_eq_true h
theorem Quo (x : Int) : -9223372036854775808 <= w64 x /\ w64 x <= 9223372036854775807 := by
 unfold w64; rw [IntKind.wrap_i64]; omega
theorem Qhh {α β A : Type} {g : MRd × A -> α × (MRd × Unit)} {cF : Nat} {pA : A -> Bool} {Q : A -> α -> Prop} (q : ∀ r a, RdOk cF r -> pA a = true -> Step cF r (g (r, a)).2.1 /\ Q a (g (r, a)).1) {N c : Nat} {r0 r : MRd} {a : A} {b : Bool} {F : α × (MRd × Unit) -> Option β} {P : β -> Prop}
  (h0 : RdOk N r0) (hb : b = (rdB cF r && pA a)) (ha : pA a = true) (hs : Step c r0 r) (hc : c + cF <= N) (k : ∀ y r', Q a y -> Step (c + cF) r0 r' -> Gets (F (y, (r', ()))) P) : Gets (cl b (g (r, a)) F) P := by
 have hr := hs.ok h0 hc
 refine Qah (hb.trans (by rw [ha, Qas.2 hr]; rfl)) ?_
 obtain ⟨h1, h2⟩ := q r a hr ha
 exact k _ _ h2 (hs.trans h1)
theorem Qtc {α β A : Type} {g : A -> α × Unit} {pA : A -> Bool} {Q : A -> α -> Prop} (q : ∀ a, pA a = true -> Q a (g a).1) {a : A} {b : Bool} {F : α × Unit -> Option β} {P : β -> Prop}
  (hb : b = pA a) (ha : pA a = true) (k : ∀ y, Q a y -> Gets (F (y, ())) P) : Gets (cl b (g a) F) P := Qah (hb.trans ha) (k _ (q a ha))
theorem Qmc {h : Int} (h1 : -9223372036854775808 <= h) (h2 : h <= 9223372036854775807) : w64 (Int.tdiv h 10) = Int.tdiv h 10 /\ (-9223372036854775808 <= Int.tdiv h 10 /\ Int.tdiv h 10 <= 9223372036854775807) /\ (h <= 0 -> Int.tdiv h 10 <= 0) /\ (0 < h -> Int.tdiv h 10 = h / 10) := by
 have e : Int.tdiv h 10 = if 0 <= h then h / 10 else -((-h) / 10) := by
  by_cases hp : 0 <= h
  ·rw [if_pos hp, Int.tdiv_eq_ediv_of_nonneg hp]
  ·rw [if_neg hp]
   have e2 : Int.tdiv h 10 = -(Int.tdiv (-h) 10) := by rw [Int.neg_tdiv, Int.neg_neg]
   rw [e2, Int.tdiv_eq_ediv_of_nonneg (by omega)]
 have hr : -9223372036854775808 <= Int.tdiv h 10 /\ Int.tdiv h 10 <= 9223372036854775807 := by
  rw [e]; split <;> omega
 exact ⟨Qak hr.1 hr.2, hr, fun hz => by rw [e]; split <;> omega, fun hz => by rw [e, if_pos (by omega)]⟩
structure DigF (w : Int) (one : Int -> ByteArray) (F : Nat -> Int -> ByteArray -> Option (ByteArray × Unit)) : Prop where
 w20 : w <= 20
 one1 : ∀ h, (one h).size = 1
 more : ∀ k h s, (0 < h ∨ (s.size : Int) < w) -> fitS (one h) s = true -> F (k + 1) h s = F k (w64 (Int.tdiv h 10)) (ByteArray.append (one h) s)
 done : ∀ k h s, h <= 0 -> w <= (s.size : Int) -> F (k + 1) h s = some (s, ())
theorem DigF.next {w : Int} {one : Int -> ByteArray} {F : Nat -> Int -> ByteArray -> Option (ByteArray × Unit)} (D : DigF w one F) {h : Int} {s : ByteArray} {P : ByteArray × Unit -> Prop} (hc : 0 < h ∨ (s.size : Int) < w) (hs : s.size <= 1000)
  (hn : WithFuel (fun k => F k (w64 (Int.tdiv h 10)) (ByteArray.append (one h) s)) P) : WithFuel (fun k => F k h s) P := by
 obtain ⟨k, hk⟩ := hn
 refine ⟨k + 1, ?_⟩
 show Gets (F (k + 1) h s) P
 rw [D.more k h s hc (Qdk (by rw [D.one1]; omega))]
 exact hk
theorem DigF.end_ {w : Int} {one : Int -> ByteArray} {F : Nat -> Int -> ByteArray -> Option (ByteArray × Unit)} (D : DigF w one F) {h : Int} {s : ByteArray} {P : ByteArray × Unit -> Prop} (hc : h <= 0) (hw : w <= (s.size : Int)) (hp : P (s, ())) : WithFuel (fun k => F k h s) P :=
 ⟨1, by show Gets (F (0 + 1) h s) P; rw [D.done 0 h s hc hw]; exact Qac hp⟩
theorem DigF.low {w : Int} {one : Int -> ByteArray} {F : Nat -> Int -> ByteArray -> Option (ByteArray × Unit)} (D : DigF w one F) : ∀ (n : Nat) (h : Int) (s : ByteArray) (B : Nat), -9223372036854775808 <= h -> h <= 0 -> s.size + n <= B -> 20 <= s.size + n -> B <= 1000 -> WithFuel (fun k => F k h s) (fun v => v.1.size <= B)
 | 0, h, s, B, h1, h2, h3, h4, h5 => by
  have := D.w20
  exact D.end_ h2 (by omega) (show s.size <= B by omega)
 | n + 1, h, s, B, h1, h2, h3, h4, h5 => by
  by_cases hw : (s.size : Int) < w
  ·obtain ⟨e1, e2, e3, _⟩ := Qmc h1 (by omega)
   refine D.next (.inr hw) (by omega) ?_
   rw [e1]
   have := D.one1 h
   exact D.low n _ _ B e2.1 (e3 h2) (by rw [Qbg]; omega) (by rw [Qbg]; omega) h5
  ·exact D.end_ h2 (by omega) (show s.size <= B by omega)
theorem DigF.high {w : Int} {one : Int -> ByteArray} {F : Nat -> Int -> ByteArray -> Option (ByteArray × Unit)} (D : DigF w one F) : ∀ (m : Nat) (h : Int) (s : ByteArray) (B : Nat), -9223372036854775808 <= h -> h <= 9223372036854775807 -> h < 10 ^ m -> s.size + m + 20 <= B -> B <= 1000 -> WithFuel (fun k => F k h s) (fun v => v.1.size <= B)
 | 0, h, s, B, h1, h2, h3, h4, h5 => D.low 20 h s B h1 (by have : h < 1 := h3; omega) (by omega) (by omega) h5
 | m + 1, h, s, B, h1, h2, h3, h4, h5 => by
  by_cases hp : 0 < h
  ·obtain ⟨e1, e2, _, e4⟩ := Qmc h1 h2
   refine D.next (.inl hp) (by omega) ?_
   rw [e1]
   have := D.one1 h
   have h6 : h < 10 ^ m * 10 := h3
   exact D.high m _ _ B e2.1 e2.2 (by rw [e4 hp]; omega) (by rw [Qbg]; omega) h5
  ·exact D.low 20 h s B h1 (by omega) (by omega) (by omega) h5
theorem DigF.all {w : Int} {one : Int -> ByteArray} {F : Nat -> Int -> ByteArray -> Option (ByteArray × Unit)} (D : DigF w one F) (h : Int) (s : ByteArray) (hs : s.size = 0) : WithFuel (fun k => F k h s) (fun v => v.1.size <= 60) := by
 by_cases hc : 0 < h ∨ (s.size : Int) < w
 ·refine D.next hc (by omega) ?_
  have hb := Quo (Int.tdiv h 10)
  have := D.one1 h
  exact D.high 19 _ _ 60 hb.1 hb.2 (Int.lt_of_le_of_lt hb.2 (by decide)) (by rw [Qbg]; omega) (by decide)
 ·exact D.end_ (by omega) (by omega) (show s.size <= 60 by omega)
theorem Qt4 {l : List ByteArray} {n : Nat} (h : ∀ s ∈ l, s.size <= n) (i : Int) : (rdL (e := .str) l i).size <= n := by
 unfold rdL
 rw [List.getD_eq_getElem?_getD]
 cases hx : l[i.toNat]? with
 | none => exact Nat.zero_le _
 | some b => exact h b (List.mem_of_getElem? hx)
def ReqD (r : MReq) : Prop := (1 <= r.1 /\ r.1 <= 6) /\ (0 <= r.2.2.1 /\ r.2.2.1 <= 9) /\ r.2.2.2.2.2.2.length <= 5 /\ (1 <= r.2.1 /\ r.2.1 <= 12) /\ (r.2.1 = 3 -> 0 <= r.2.2.2.2.1 /\ r.2.2.2.2.1 <= 10000)
theorem ReqD.g {r : MReq} (h : ReqD r) : ReqG r := ⟨h.2.1.1, h.2.2.2.2⟩
end Go.Vm

set_option linter.unusedVariables false
set_option linter.unusedSimpArgs false
namespace Go.Vm
theorem Qfz {y : Int} (h : PickQ ((5 : Int), ()) y) : 1 <= w64 ((1 : Int) + y) /\ w64 ((1 : Int) + y) <= 6 := by
 have h1 : 0 <= y := h.1
 have h2 : y < 5 := h.2 (show (1 : Int) <= 5 by decide)
 rw [Qak (by omega) (by omega)]; omega
theorem Qgv {y : Int} (h : 1 <= y /\ y <= 5) : 1 <= y /\ y <= 6 := by omega
theorem Qd0 {u k b t n : Int} {v : MDec} {ts : List MAsk} (hu : 1 <= u /\ u <= 6) (hb : 0 <= b /\ b <= 9) (hts : ts.length <= 5) (hk : 1 <= k /\ k <= 12) (hn : k = 3 -> 0 <= n /\ n <= 10000) : ReqD (u, k, b, t, n, v, ts) := ⟨hu, hb, hts, hk, hn⟩
def NextQ (at_ : Int) (q : MReq) : Prop := q.2.2.1 = at_ /\ q.2.2.2.2.2.2.length = 0 /\ (4 <= q.2.1 /\ q.2.1 <= 12)
theorem Qmd {u a : Int} {q : MReq} (hu : 1 <= u /\ u <= 6) (ha : 0 <= a /\ a <= 9) (h : NextQ a q) : ReqD (u, q.2) := by
 obtain ⟨h1, h2, h3⟩ := h
 refine ⟨hu, ?_, ?_, ?_, fun h => ?_⟩
 ·show 0 <= q.2.2.1 /\ q.2.2.1 <= 9
  omega
 ·show q.2.2.2.2.2.2.length <= 5
  omega
 ·show 1 <= q.2.1 /\ q.2.1 <= 12
  omega
 ·have h : q.2.1 = 3 := h
  omega
theorem Qo2 (y : Int) : 0 <= rdL (e := .int .i64) [(1 : Int), (9 : Int), (100 : Int), (0 : Int)] y /\ rdL (e := .int .i64) [(1 : Int), (9 : Int), (100 : Int), (0 : Int)] y <= 10000 := by
 unfold rdL
 rw [List.getD_eq_getElem?_getD]
 cases hx : [(1 : Int), (9 : Int), (100 : Int), (0 : Int)][y.toNat]? with
 | none => exact ⟨Int.le_refl _, by decide⟩
 | some b =>
  have := List.mem_of_getElem? hx
  simp only [List.mem_cons, List.not_mem_nil, or_false] at this
  show 0 <= b /\ b <= 10000
  omega
theorem Qtd {y : Int} (h : PickQ ((4 : Int), ()) y) : rolesOk (rdL (e := .sl 3 (.int .i64)) [[(1 : Int), (2 : Int), (3 : Int), (4 : Int)], [(1 : Int), (2 : Int), (3 : Int), (4 : Int), (3 : Int)], [(2 : Int), (3 : Int), (4 : Int), (2 : Int), (1 : Int)], [(4 : Int), (2 : Int), (3 : Int)]] y) = true := by
 have h1 : 0 <= y := h.1
 have h2 : y < 4 := h.2 (show (1 : Int) <= 4 by decide)
 have : y = 0 ∨ y = 1 ∨ y = 2 ∨ y = 3 := by omega
 rcases this with rfl | rfl | rfl | rfl <;> decide
theorem Qlh {h : MHou} (hk : houOk h = true) {a : Int} (h0 : 0 <= a) (h1 : a < (h.2.2.length : Int)) : batOk (rdL (e := .pair (.int .i64) (.pair (.int .i64) (.pair (.sl 0 (.pair (.pair (.int .i64) (.pair (.pair (.int .i64) (.int .i64)) (.pair (.pair (.int .i64) (.int .i64)) (.int .i64)))) (.pair (.int .i64) (.pair (.pair (.int .i64) (.int .i64)) (.pair (.int .i64) (.sl 0 (.pair (.int .i64) (.int .i64)))))))) (.pair (.int .i64) (.pair (.sl 0 (.pair (.int .i64) (.pair (.int .i64) (.int .i64)))) (.sl 0 .bool)))))) h.2.2 a) = true := by
 have hi : a.toNat < h.2.2.length := by omega
 have e : rdL (e := .pair (.int .i64) (.pair (.int .i64) (.pair (.sl 0 (.pair (.pair (.int .i64) (.pair (.pair (.int .i64) (.int .i64)) (.pair (.pair (.int .i64) (.int .i64)) (.int .i64)))) (.pair (.int .i64) (.pair (.pair (.int .i64) (.int .i64)) (.pair (.int .i64) (.sl 0 (.pair (.int .i64) (.int .i64)))))))) (.pair (.int .i64) (.pair (.sl 0 (.pair (.int .i64) (.pair (.int .i64) (.int .i64)))) (.sl 0 .bool)))))) h.2.2 a = h.2.2[a.toNat] := by
  unfold rdL
  rw [List.getD_eq_getElem?_getD, List.getElem?_eq_getElem hi]; rfl
 rw [e]
 exact (Qct.1 ((Qbs.1 hk).2.2.2 _ (List.getElem_mem hi))).1
theorem Qr3 {y z : Int} (h : PickQ ((5 : Int), ()) y) (hz : PickQ ((40 : Int), ()) z) : ∃ n : Nat, n <= 40 /\ rdL (e := .int .i64) [(0 : Int), (8 : Int), (20 : Int), (32 : Int), z] y = (n : Int) := by
 have h1 : 0 <= y := h.1
 have h2 : y < 5 := h.2 (show (1 : Int) <= 5 by decide)
 have z1 : 0 <= z := hz.1
 have z2 : z < 40 := hz.2 (show (1 : Int) <= 40 by decide)
 have : y = 0 ∨ y = 1 ∨ y = 2 ∨ y = 3 ∨ y = 4 := by omega
 rcases this with rfl | rfl | rfl | rfl | rfl
 ·exact ⟨0, by decide, rfl⟩
 ·exact ⟨8, by decide, rfl⟩
 ·exact ⟨20, by decide, rfl⟩
 ·exact ⟨32, by decide, rfl⟩
 ·exact ⟨z.toNat, by omega, by show z = _; omega⟩
end Go.Vm

set_option linter.unusedVariables false
set_option linter.unusedSimpArgs false
namespace Go.Vm
def tS (t : MTst) : Prop := -1 <= t.2.1 /\ t.2.1 <= 5
def tR (t : MTst) : Prop := 0 <= t.2.1 /\ t.2.1 <= 4
theorem tS_of {t : MTst} (h : tR t) : tS t := ⟨by have := h.1; omega, by have := h.2; omega⟩
theorem tR_ok {t : MTst} (h : tstOk t = true) : tR t := by
 unfold tR
 rcases (Qb2.1 h).2 with ⟨h1, _⟩ | ⟨_, h1, _⟩
 ·omega
 ·rcases Qhs t with h2 | h2 | h2 | h2 <;> omega
theorem Qup {t : MTst} {v : MDec} (h : tR t) : tR (tstPut t v).1 := by
 cases hp : (tstPut t v).2
 ·rw [Qic hp]; exact h
 ·exact tR_ok (Qe6 hp).2
theorem Qte {t : MTst} {c : Int} (h : tR t) : tR (tstCause t c).1 := by
 cases hp : (tstCause t c).2
 ·rw [Qgf hp]; exact h
 ·exact tR_ok (Qd7 hp).2
theorem Qt5 {t : MTst} {v : MDec} (h : tR t) : tR (tstMore t v).1 := by
 cases hp : (tstMore t v).2
 ·rw [Qe5 hp]; exact h
 ·exact tR_ok (Qdm hp).2
theorem Qt6 {y : Int} (h : PickQ ((7 : Int), ()) y) : -1 <= w64 (y - (1 : Int)) /\ w64 (y - (1 : Int)) <= 5 := by
 have h0 : 0 <= y := h.1
 have h1 : y < 7 := h.2 (show (1 : Int) <= 7 by decide)
 rw [Qak (by omega) (by omega)]; omega
def TstsDr (l : List MTst) : Prop := l.length <= 5 /\ ∀ t ∈ l, t.2.2.2.2.length <= 3 /\ tS t
def BatDr (b : MBat) : Prop := TstsDr b.2.2.1 /\ b.2.2.2.2.1.length <= 7 /\ b.2.2.2.2.2.length <= 4
theorem Qnt {b : MBat} (h : batOk b = true) : TstsDr b.2.2.1 /\ b.2.2.2.2.1.length <= 6 /\ b.2.2.2.2.2.length <= 3 := by
 obtain ⟨⟨_, _, h3, _, h5, h6, _, h8⟩, _⟩ := Qbf.1 h
 exact ⟨⟨by omega, fun t ht => ⟨Nat.le_trans (Qif (List.all_eq_true.1 (Qfx h5) t ht)) (by decide), tS_of (tR_ok (List.all_eq_true.1 (Qfx h5) t ht))⟩⟩, h6, h8⟩
theorem BatDr.of {b : MBat} (h : batOk b = true) : BatDr b := by
 obtain ⟨h1, h2, h3⟩ := Qnt h
 exact ⟨h1, by omega, by omega⟩
theorem BatDr.sm {b : MBat} (h : BatDr b) : smB b = true := by
 obtain ⟨⟨h1, h2⟩, h3, h4⟩ := h
 exact Qbv.2 ⟨by omega, fun t ht => Nat.le_trans (h2 t ht).1 (by decide), by omega, by omega⟩
theorem TstsDr.nil : TstsDr [] := ⟨Nat.zero_le _, fun t ht => by cases ht⟩
theorem TstsDr.set {l : List MTst} {i : Nat} {t : MTst} (h : TstsDr l) (ht : t.2.2.2.2.length <= 3 /\ tS t) : TstsDr (l.set i t) :=
 ⟨by rw [List.length_set]; exact h.1, fun x hx => by
  rcases List.mem_or_eq_of_mem_set hx with hx | hx
  ·exact h.2 x hx
  ·rw [hx]; exact ht⟩
theorem Qnu {α : Type} {l : List α} {x : α} {n : Nat} (h : l.length <= n) : (List.append l [x]).length <= n + 1 := by
 show (l ++ [x]).length <= n + 1
 rw [List.length_append]; show l.length + 1 <= n + 1; omega
theorem Qr4 (k : Int) (l : List MAsk) (n : Int) (hl : l.length <= 5) : BatDr (batNew k l n) := by
 rcases Qnm k l n with ⟨_, _, _, e⟩ | ⟨e, _⟩
 ·rw [e]
  refine ⟨⟨by show (l.map newT).length <= 5; rw [List.length_map]; exact hl, fun t ht => ?_⟩, Nat.zero_le _, Nat.zero_le _⟩
  obtain ⟨a, _, rfl⟩ := List.mem_map.1 ht
  exact ⟨Nat.zero_le _, show (-1 : Int) <= 0 /\ (0 : Int) <= 5 by decide⟩
 ·rw [e]; exact ⟨TstsDr.nil, Nat.zero_le _, Nat.zero_le _⟩
end Go.Vm


set_option linter.unusedVariables false
set_option linter.unusedSimpArgs false
namespace Go.Vm
theorem Qij {α : Type} {l : List α} {x : α} : l ++ [x] ≠ l := fun e => by
 have := congrArg List.length e
 rw [List.length_append] at this
 have : l.length + 1 = l.length := this
 omega
theorem Qgk {α : Type} {l : List α} {i : Nat} {x y : α} (hy : l[i]? = some y) (h : x ≠ y) : l.set i x ≠ l := fun e => by
 have hi : i < l.length := (List.getElem?_eq_some_iff.1 hy).1
 have h1 : (l.set i x)[i]? = some x := List.getElem?_set_self hi
 rw [e, hy] at h1
 exact h (Option.some.inj h1).symm
theorem Qnv {t : MTst} {w : Int} {v : MDec} {c : Int} (h : (tstTurn t w v c).2 = true) : (tstTurn t w v c).1 ≠ t := by
 unfold tstTurn at h ⊢
 split at h
 ·rw [if_pos ‹_›]
  intro e
  have h1 := (Qt3 h).1
  have h2 := (Qe4.1 h).2.1
  rw [e, h2] at h1
  split at h1 <;> omega
 ·rw [if_neg ‹_›]
  split at h
  ·rw [if_pos ‹_›]
   intro e
   obtain ⟨h2, h1, _⟩ := Qrz h
   rw [e, h2] at h1
   split at h1 <;> omega
  ·rw [if_neg ‹_›]
   split at h
   ·rw [if_pos ‹_›]
    intro e
    obtain ⟨_, h1, _⟩ := Qtb h
    rw [e] at h1
    exact Qij h1.symm
   ·cases h
structure DoneB (b b' : MBat) : Prop where
 ne : b' ≠ b
 st : (b.2.2.2.1 = 1 /\ (b'.2.2.2.1 = 1 ∨ b'.2.2.2.1 = 2 ∨ b'.2.2.2.1 = 3)) ∨ (b.2.2.2.1 = 2 /\ b'.2.2.2.1 = 4)
theorem Qf0 {b : MBat} {n w : Int} {v : MDec} {c : Int} (h : (batTest b n w v c).2 = true) : DoneB b (batTest b n w v c).1 := by
 unfold batTest at h ⊢
 cases hc : (isOpen b && !decide (findT b.2.2.1 n < 0))
 ·rw [hc] at h; cases h
 ·rw [hc] at h
  have h : (tstTurn (b.2.2.1.getD (findT b.2.2.1 n).toNat t0) w v c).2 = true := h
  simp only [Bool.and_eq_true, Bool.not_eq_true', decide_eq_false_iff_not] at hc
  have hr := (Qel b.2.2.1 n).resolve_left (by omega)
  have hi : (findT b.2.2.1 n).toNat < b.2.2.1.length := by omega
  have ho := (Qdj.1 hc.1).2
  refine ⟨fun e => ?_, .inl ⟨ho, .inl ho⟩⟩
  have e1 : b.2.2.1.set (findT b.2.2.1 n).toNat (tstTurn (b.2.2.1.getD (findT b.2.2.1 n).toNat t0) w v c).1 = b.2.2.1 := congrArg (fun x : MBat => x.2.2.1) e
  exact Qgk (Qlg hi) (Qnv h) e1
theorem Qjd {b : MBat} {k : Int} {o : Bool} (h : (batDev b k o).2 = true) : DoneB b (batDev b k o).1 := by
 unfold batDev at h ⊢
 cases hc : (isOpen b && (bif o then decide (k = b.2.2.2.2.2.length) && decide (k < 3) else inq k 0 ((b.2.2.2.2.2.length : Int) - 1) && b.2.2.2.2.2.getD k.toNat false))
 ·rw [hc] at h; cases h
 ·obtain ⟨h1, h2⟩ := Bool.and_eq_true_iff.1 hc
  have ho := (Qdj.1 h1).2
  refine ⟨fun e => ?_, .inl ⟨ho, .inl ho⟩⟩
  have e1 : (bif o then b.2.2.2.2.2 ++ [true] else b.2.2.2.2.2.set k.toNat false) = b.2.2.2.2.2 := congrArg (fun x : MBat => x.2.2.2.2.2) e
  cases o
  ·have h2 : (inq k 0 ((b.2.2.2.2.2.length : Int) - 1) && b.2.2.2.2.2.getD k.toNat false) = true := h2
   obtain ⟨h3, h4⟩ := Bool.and_eq_true_iff.1 h2
   have h3 := Qar.1 h3
   have hi : k.toNat < b.2.2.2.2.2.length := by omega
   refine Qgk (y := true) ?_ (by decide) e1
   rw [List.getD_eq_getElem?_getD, List.getElem?_eq_getElem hi] at h4
   rw [List.getElem?_eq_getElem hi]
   exact congrArg some h4
  ·exact Qij e1
theorem Qnw {b : MBat} {u r : Int} (h : (batSign b u r).2 = true) : DoneB b (batSign b u r).1 := by
 unfold batSign at h ⊢
 cases hc : (isOpen b && (inq u 1 5 && (signs r && !decide (b.2.2.2.2.1.length = 6))))
 ·rw [hc] at h; cases h
 ·have ho := (Qdj.1 (Bool.and_eq_true_iff.1 hc).1).2
  refine ⟨fun e => ?_, .inl ⟨ho, .inl ho⟩⟩
  have e1 : b.2.2.2.2.1 ++ [(u, r, batMark b)] = b.2.2.2.2.1 := congrArg (fun x : MBat => x.2.2.2.2.1) e
  exact Qij e1
theorem Qf1 {b : MBat} {s : Int} (h : (batMove b s).2 = true) : DoneB b (batMove b s).1 := by
 obtain ⟨_, hw⟩ := Qgi.1 h
 rw [Qgj h]
 refine ⟨fun e => ?_, ?_⟩
 ·have e1 : s = b.2.2.2.1 := congrArg (fun x : MBat => x.2.2.2.1) e
  rcases hw with ⟨w1, w2 | ⟨w2, _⟩⟩ | ⟨w1, w2⟩ <;> omega
 ·show (b.2.2.2.1 = 1 /\ (s = 1 ∨ s = 2 ∨ s = 3)) ∨ (b.2.2.2.1 = 2 /\ s = 4)
  rcases hw with ⟨w1, w2 | ⟨w2, _⟩⟩ | ⟨w1, w2⟩ <;> omega
theorem Qnx {b : MBat} {r : MReq} {o : Int} : (batTurn b r o).2 = true -> DoneB b (batTurn b r o).1 := by
 unfold batTurn
 split
 ·exact Qf0
 ·split
  ·exact Qf0
  ·split
   ·exact Qf0
   ·split
    ·exact Qjd
    ·split
     ·exact Qjd
     ·split
      ·exact Qnw
      ·split
       ·exact Qf1
       ·split
        ·exact Qf1
        ·exact Qf1
theorem getBat {l : List MBat} {i : Nat} (h : i < l.length) : l[i]? = some (l.getD i batNone) := by
 rw [List.getD_eq_getElem?_getD, List.getElem?_eq_getElem h]; rfl
inductive Did (h : MHou) (r : MReq) : MHou × Int -> Prop where
 | no (n : Int) (h1 : 2 <= n) (h6 : n <= 6) (hm : n = 2 ↔ houMay h r = false) : Did h r (h, n)
 | draft (hm : houMay h r = true) (hk : r.2.1 = 1) (hd : (spcAdd h.2.1 r.2.2.2.2.2.2).2 = true) : Did h r ((h.1, h.2.1 ++ [(r.2.2.2.2.2.2, 1)], h.2.2), 1)
 | raise (hm : houMay h r = true) (hk : r.2.1 = 2) (hd : (spcRaise h.2.1 r.2.2.2.2.1).2 = true) : Did h r ((h.1, (spcRaise h.2.1 r.2.2.2.2.1).1, h.2.2), 1)
 | take (hm : houMay h r = true) (hk : r.2.1 = 3) (hs : 0 <= spcNow h.2.1) (hl : h.2.2.length < 4) (hn : r.2.2.2.2.1 ≠ 0) :
   Did h r ((h.1, h.2.1, h.2.2 ++ [(spcNow h.2.1, r.2.2.2.2.1, (h.2.1.getD (spcNow h.2.1).toNat spc0).1.map newT, 1, [], [])]), 1)
 | turn (hm : houMay h r = true) (hk : 4 <= r.2.1) (h0 : 0 <= r.2.2.1) (hi : r.2.2.1.toNat < h.2.2.length) (hd : (batTurn (h.2.2.getD r.2.2.1.toNat batNone) r (roleOf h r)).2 = true) :
   Did h r ((h.1, h.2.1, h.2.2.set r.2.2.1.toNat (batTurn (h.2.2.getD r.2.2.1.toNat batNone) r (roleOf h r)).1), 1)
theorem Did.n {h : MHou} {r : MReq} {x : MHou × Int} (d : Did h r x) : 1 <= x.2 /\ x.2 <= 6 := by cases d <;> constructor <;> first | decide | (show (_ : Int) <= _; omega)
theorem Did.same {h : MHou} {r : MReq} {x : MHou × Int} (d : Did h r x) : x.1 = h ↔ x.2 ≠ 1 := by
 cases d with
 | no n h1 h6 hm => exact ⟨fun _ => by show n ≠ 1; omega, fun _ => rfl⟩
 | draft hm hk hd => exact ⟨fun e => absurd (congrArg (fun x : MHou => x.2.1) e) Qij, fun h => absurd rfl h⟩
 | raise hm hk hd =>
  refine ⟨fun e => ?_, fun h => absurd rfl h⟩
  have e1 : (spcRaise h.2.1 r.2.2.2.2.1).1 = h.2.1 := congrArg (fun x : MHou => x.2.1) e
  obtain ⟨_, h2, h3⟩ := Qnp.1 hd
  rw [Qfy hd] at e1
  have hi : r.2.2.2.2.1.toNat < h.2.1.length := by omega
  have := congrArg (fun l : List MSpc => l[r.2.2.2.2.1.toNat]?) e1
  have : ((h.2.1.map retire).set r.2.2.2.2.1.toNat ((h.2.1.getD r.2.2.2.2.1.toNat spc0).1, 2))[r.2.2.2.2.1.toNat]? = h.2.1[r.2.2.2.2.1.toNat]? := this
  rw [List.getElem?_set_self (by rw [List.length_map]; exact hi), List.getElem?_eq_getElem hi] at this
  rw [List.getD_eq_getElem?_getD, List.getElem?_eq_getElem hi] at h3
  have h4 := Option.some.inj this
  have h5 : (2 : Int) = h.2.1[r.2.2.2.2.1.toNat].2 := congrArg (fun s : MSpc => s.2) h4
  have h3 : h.2.1[r.2.2.2.2.1.toNat].2 = 1 := h3
  omega
 | take hm hk hs hl hn => exact ⟨fun e => absurd (congrArg (fun x : MHou => x.2.2) e) Qij, fun h => absurd rfl h⟩
 | turn hm hk h0 hi hd =>
  exact ⟨fun e => absurd (congrArg (fun x : MHou => x.2.2) e) (Qgk (getBat hi) (Qnx hd).ne), fun h => absurd rfl h⟩
theorem Did.may {h : MHou} {r : MReq} {x : MHou × Int} (d : Did h r x) : x.2 = 2 ↔ houMay h r = false := by
 cases d with
 | no n h1 h6 hm => exact hm
 | draft hm hk hd => exact ⟨fun e => absurd (show (1 : Int) = 2 from e) (by decide), fun e => by rw [hm] at e; cases e⟩
 | raise hm hk hd => exact ⟨fun e => absurd (show (1 : Int) = 2 from e) (by decide), fun e => by rw [hm] at e; cases e⟩
 | take hm hk hs hl hn => exact ⟨fun e => absurd (show (1 : Int) = 2 from e) (by decide), fun e => by rw [hm] at e; cases e⟩
 | turn hm hk h0 hi hd => exact ⟨fun e => absurd (show (1 : Int) = 2 from e) (by decide), fun e => by rw [hm] at e; cases e⟩
end Go.Vm

set_option linter.unusedVariables false
set_option linter.unusedSimpArgs false
namespace Go.Vm
theorem Qof {l : List MBat} {i j : Nat} {b : MBat} (h : i ≠ j) : (l.set i b).getD j batNone = l.getD j batNone := by
 rw [List.getD_eq_getElem?_getD, List.getElem?_set_ne h, <- List.getD_eq_getElem?_getD]
theorem Qmq {l : List MBat} {i : Nat} {b : MBat} (h : i < l.length) : (l.set i b).getD i batNone = b := by
 rw [List.getD_eq_getElem?_getD, List.getElem?_set_self h]; rfl
theorem Qtf {l : List MBat} {j : Nat} {b : MBat} (h : j < l.length) : (l ++ [b]).getD j batNone = l.getD j batNone := by
 rw [List.getD_eq_getElem?_getD, List.getElem?_append_left h, <- List.getD_eq_getElem?_getD]
theorem Qme {l : List MBat} {b : MBat} : (l ++ [b]).getD l.length batNone = b := by
 rw [List.getD_eq_getElem?_getD, List.getElem?_append_right (Nat.le_refl _), Nat.sub_self]; rfl
theorem Did.spec {h : MHou} {r : MReq} {x : MHou × Int} (d : Did h r x) (hh : houOk h = true) :
  (∀ i : Nat, i < h.2.2.length -> (x.1.2.2.getD i batNone).1 = (h.2.2.getD i batNone).1 /\ (x.1.2.2.getD i batNone).2.1 = (h.2.2.getD i batNone).2.1 /\ (x.1.2.2.getD i batNone).2.2.1.map (·.1) = (h.2.2.getD i batNone).2.2.1.map (·.1)) /\
  (∀ i : Nat, i < h.2.1.length -> (x.1.2.1.getD i spc0).1 = (h.2.1.getD i spc0).1) /\
  (x.1.2.2.length = h.2.2.length ∨ (x.1.2.2.length = h.2.2.length + 1 /\ (x.1.2.2.getD h.2.2.length batNone).1 = spcNow h.2.1 /\ (x.1.2.2.getD h.2.2.length batNone).2.1 = r.2.2.2.2.1 /\ r.2.1 = 3)) := by
 have hb := (Qbs.1 hh).2.2.2
 cases d with
 | no n h1 h6 hm => exact ⟨fun _ _ => ⟨rfl, rfl, rfl⟩, fun _ _ => rfl, .inl rfl⟩
 | draft hm hk hd => exact ⟨fun _ _ => ⟨rfl, rfl, rfl⟩, fun i hi => by rw [Qjc hi], .inl rfl⟩
 | raise hm hk hd => exact ⟨fun _ _ => ⟨rfl, rfl, rfl⟩, fun i hi => (Qnr hd hi).2.1, .inl rfl⟩
 | take hm hk hs hl hn =>
  refine ⟨fun i hi => ?_, fun _ _ => rfl, .inr ⟨by show (h.2.2 ++ [_]).length = _; rw [List.length_append]; rfl, ?_, ?_, hk⟩⟩
  ·show ((h.2.2 ++ [_]).getD i batNone).1 = _ /\ ((h.2.2 ++ [_]).getD i batNone).2.1 = _ /\ ((h.2.2 ++ [_]).getD i batNone).2.2.1.map _ = _
   rw [Qtf hi]; exact ⟨rfl, rfl, rfl⟩
  ·show ((h.2.2 ++ [_]).getD _ batNone).1 = _
   rw [Qme]
  ·show ((h.2.2 ++ [_]).getD _ batNone).2.1 = _
   rw [Qme]
 | turn hm hk h0 hi hd =>
  refine ⟨fun i hi2 => ?_, fun _ _ => rfl, .inl List.length_set⟩
  show ((h.2.2.set _ _).getD i batNone).1 = _ /\ ((h.2.2.set _ _).getD i batNone).2.1 = _ /\ ((h.2.2.set _ _).getD i batNone).2.2.1.map _ = _
  by_cases e : r.2.2.1.toNat = i
  ·subst e
   rw [Qmq hi]
   have ho : batOk (h.2.2.getD r.2.2.1.toNat batNone) = true := (Qct.1 (hb _ (Qjy h0 (by omega)))).1
   have ht := Qkt (r := r) (o := roleOf h r) ho
   exact ⟨ht.spec, ht.boxes, ht.asks⟩
  ·rw [Qof e]; exact ⟨rfl, rfl, rfl⟩
end Go.Vm

set_option linter.unusedVariables false
set_option linter.unusedSimpArgs false
namespace Go.Vm
theorem Qj0 {b : MBat} (h : b.2.2.2.1 ≠ 1) : isOpen b = false := by
 unfold isOpen
 rw [decide_eq_false h, Bool.and_false]
theorem Qmf {b : MBat} (h : b.2.2.2.1 ≠ 1) (n w : Int) (v : MDec) (c : Int) : batTest b n w v c = (b, false) := by unfold batTest; rw [Qj0 h]; rfl
theorem Qmg {b : MBat} (h : b.2.2.2.1 ≠ 1) (u r : Int) : batSign b u r = (b, false) := by unfold batSign; rw [Qj0 h]; rfl
theorem Qny {b : MBat} (h : b.2.2.2.1 ≠ 1) (k : Int) (o : Bool) : batDev b k o = (b, false) := by unfold batDev; rw [Qj0 h]; rfl
theorem Qog {b : MBat} (hk : batOk b = true) (h : b.2.2.2.1 = 1) : batMove b 3 = ((b.1, b.2.1, b.2.2.1, 3, b.2.2.2.2.1, b.2.2.2.2.2), true) := by
 have h2 : (batMove b 3).2 = true := Qgi.2 ⟨hk, .inl ⟨h, .inl rfl⟩⟩
 have h1 := Qgj h2
 rw [<- h1, <- h2]
end Go.Vm
