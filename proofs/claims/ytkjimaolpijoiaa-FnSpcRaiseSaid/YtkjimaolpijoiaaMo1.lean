/- What the program's functions are, in plain Lean: decimals, specifications, tests. -/
import Derived.Test.YtkjimaolpijoiaaLp1
set_option linter.unusedVariables false
set_option linter.unusedSimpArgs false
namespace Go.Vm

abbrev MDec : Type := Int × Int
abbrev MAsk : Type := Int × MDec × MDec × Int
abbrev MSpc : Type := List MAsk × Int
abbrev MTst : Type := MAsk × Int × MDec × Int × List MDec
abbrev MSig : Type := Int × Int × Int
abbrev MBat : Type := Int × Int × List MTst × Int × List MSig × List Bool
abbrev MHou : Type := List Int × List MSpc × List MBat
abbrev MReq : Type := Int × Int × Int × Int × Int × MDec × List MAsk
abbrev MCer : Type := Int × List MAsk × List MDec × Int × Int

def inq (n lo hi : Int) : Bool := decide (lo ≤ n) && decide (n ≤ hi)
theorem inq_iff {n lo hi : Int} : inq n lo hi = true ↔ lo ≤ n ∧ n ≤ hi := by simp [inq]

def pw (n : Int) : Int := 10 ^ n.toNat
theorem pw_pos (n : Int) : 0 < pw n := by unfold pw; exact Int.pow_pos (by decide)
theorem pw_le {n : Int} (h : n ≤ 3) : pw n ≤ 1000 := by
  unfold pw
  by_cases h0 : n < 0
  · rw [Int.toNat_of_nonpos (by omega)]; decide
  · have : n = 0 ∨ n = 1 ∨ n = 2 ∨ n = 3 := by omega
    rcases this with rfl | rfl | rfl | rfl <;> decide

def near (n d : Int) : Int := if n < 0 then -((2 * -n + d) / (2 * d)) else (2 * n + d) / (2 * d)
def decOk (d : MDec) : Bool := inq d.2 0 3 && inq d.1 (-9999 * pw d.2) (9999 * pw d.2)
theorem decOk_iff {d : MDec} : decOk d = true ↔ (0 ≤ d.2 ∧ d.2 ≤ 3) ∧ -9999 * pw d.2 ≤ d.1 ∧ d.1 ≤ 9999 * pw d.2 := by
  unfold decOk; rw [Bool.and_eq_true, inq_iff, inq_iff]
theorem decOk_abs {d : MDec} (h : decOk d = true) : -9999000 ≤ d.1 ∧ d.1 ≤ 9999000 := by
  obtain ⟨⟨h1, h2⟩, h3, h4⟩ := decOk_iff.1 h
  have := pw_le h2
  have := pw_pos d.2
  omega

def nrPre (n d : Int) : Bool := decide (-1000000000000000 ≤ n) && decide (n ≤ 1000000000000000) && (decide (1 ≤ d) && decide (d ≤ 1000000000000000))
theorem nrPre_iff {n d : Int} : nrPre n d = true ↔ (-1000000000000000 ≤ n ∧ n ≤ 1000000000000000) ∧ 1 ≤ d ∧ d ≤ 1000000000000000 := by
  unfold nrPre; simp only [Bool.and_eq_true, decide_eq_true_eq]

/-- A decimal that is ok with so many places. -/
def atR (d : MDec) (p : Int) : MDec := if d.2 ≤ p then (d.1 * pw (p - d.2), p) else (near d.1 (pw (d.2 - p)), p)
def decAt (d : MDec) (p : Int) : MDec := bif decOk d && inq p 0 3 then atR d p else (0, 0)
def cmpI (x y : Int) : Int := if x < y then -1 else if y < x then 1 else 0
def decCmp (a b : MDec) : Int := bif decOk a && decOk b then cmpI (atR a 3).1 (atR b 3).1 else 0
def askOk (t : MAsk) : Bool := inq t.1 1 4 && (decOk t.2.1 && (decOk t.2.2.1 && (decide (decCmp t.2.1 t.2.2.1 ≤ 0) && inq t.2.2.2 0 3)))
def spcIn (t : MAsk) (v : MDec) : Bool := askOk t && (decOk v && (decide (decCmp t.2.1 (atR v t.2.2.2) ≤ 0) && decide (decCmp (atR v t.2.2.2) t.2.2.1 ≤ 0)))

def rises (p : Option Int) (n : Int) : Bool := match p with | none => true | some q => decide (q < n)
/-- All are ok, their numbers rise. -/
def asksOk : Option Int → List MAsk → Bool
  | _, [] => true
  | p, t :: r => askOk t && (rises p t.1 && asksOk (some t.1) r)
def testsOk (l : List MAsk) : Bool := inq l.length 1 4 && asksOk none l
end Go.Vm
