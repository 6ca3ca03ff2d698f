/- Decimals: what the evaluations come to. -/
import Derived.Test.YtkjimaolpijoiaaMo1
set_option linter.unusedVariables false
set_option linter.unusedSimpArgs false
namespace Go.Vm

theorem pw_cases {n : Int} (h : n ≤ 3) : pw n = 1 ∨ pw n = 10 ∨ pw n = 100 ∨ pw n = 1000 := by
  unfold pw
  by_cases h0 : n < 0
  · rw [Int.toNat_of_nonpos (by omega)]; exact .inl rfl
  · have : n = 0 ∨ n = 1 ∨ n = 2 ∨ n = 3 := by omega
    rcases this with rfl | rfl | rfl | rfl
    · exact .inl rfl
    · exact .inr (.inl rfl)
    · exact .inr (.inr (.inl rfl))
    · exact .inr (.inr (.inr rfl))

theorem p_decOk (d : MDec) : (bif inq d.2 0 3 then (bif decide (d.2 ≤ 18) then (bif decide (d.2 ≤ 18) then some (inq d.1 (w64 ((-9999 : Int) * pw d.2)) (w64 ((9999 : Int) * pw d.2)), ()) else none) else none) else some (false, ())) = some (decOk d, ()) := by
  unfold decOk
  cases h : inq d.2 0 3
  · rfl
  · obtain ⟨h1, h2⟩ := inq_iff.1 h
    have h3 := pw_le h2
    have h4 := pw_pos d.2
    rw [decide_eq_true (show d.2 ≤ 18 by omega), w64_eq (by omega) (by omega), w64_eq (by omega) (by omega)]
    rfl

theorem near_bound {n d : Int} (h1 : -9999000 ≤ n) (h2 : n ≤ 9999000) (h3 : 1 ≤ d) : -9999001 ≤ near n d ∧ near n d ≤ 9999001 := by
  have key : ∀ m : Int, 0 ≤ m → m ≤ 9999000 → 0 ≤ (2 * m + d) / (2 * d) ∧ (2 * m + d) / (2 * d) ≤ 9999001 := fun m g1 g2 => by
    refine ⟨Int.ediv_nonneg (by omega) (by omega), ?_⟩
    refine Int.ediv_le_of_le_mul (by omega) ?_
    have : (9999001 : Int) * (2 * d) = 19998002 * d := by omega
    omega
  unfold near
  split
  · have := key (-n) (by omega) (by omega); omega
  · have := key n (by omega) (by omega); omega

theorem p_atR {d : MDec} {p : Int} (hd : decOk d = true) (hp : inq p 0 3 = true) :
    (bif decide (d.2 ≤ p) then (bif decide (w64 (p - d.2) ≤ 18) then some ((w64 (d.1 * pw (w64 (p - d.2))), p), ()) else none) else (bif decide (w64 (d.2 - p) ≤ 18) then (bif nrPre d.1 (pw (w64 (d.2 - p))) then some ((near d.1 (pw (w64 (d.2 - p))), p), ()) else none) else none)) = some (atR d p, ()) := by
  obtain ⟨⟨h1, h2⟩, h3, h4⟩ := decOk_iff.1 hd
  obtain ⟨h5, h6⟩ := inq_iff.1 hp
  obtain ⟨b1, b2⟩ := decOk_abs hd
  rw [w64_eq (x := p - d.2) (by omega) (by omega), w64_eq (x := d.2 - p) (by omega) (by omega), decide_eq_true (show p - d.2 ≤ 18 by omega), decide_eq_true (show d.2 - p ≤ 18 by omega)]
  unfold atR
  by_cases h : d.2 ≤ p
  · rw [decide_eq_true h, if_pos h, w64_eq]
    · rfl
    · rcases pw_cases (n := p - d.2) (by omega) with e | e | e | e <;> rw [e] <;> omega
    · rcases pw_cases (n := p - d.2) (by omega) with e | e | e | e <;> rw [e] <;> omega
  · rw [decide_eq_false h, if_neg h]
    have : nrPre d.1 (pw (d.2 - p)) = true := nrPre_iff.2 ⟨⟨by omega, by omega⟩, by have := pw_pos (d.2 - p); omega, by have := pw_le (n := d.2 - p) (by omega); omega⟩
    rw [this]; rfl

theorem p_decAt (d : MDec) (p : Int) (z : Option (MDec × Unit)) (hz : decOk d = true → inq p 0 3 = true → z = some (atR d p, ())) :
    (bif (bif decOk d then false else true) then some (((0 : Int), (0 : Int)), ()) else (bif (bif inq p 0 3 then false else true) then some (((0 : Int), (0 : Int)), ()) else z)) = some (decAt d p, ()) := by
  unfold decAt
  cases h1 : decOk d
  · rfl
  · cases h2 : inq p 0 3
    · rfl
    · exact hz h1 h2

theorem p_decCmp (a b : MDec) (z : Option (Int × Unit)) (hz : decOk a = true → decOk b = true → z = some (cmpI (atR a 3).1 (atR b 3).1, ())) :
    (bif (bif decOk a then false else true) then some ((0 : Int), ()) else (bif (bif decOk b then false else true) then some ((0 : Int), ()) else z)) = some (decCmp a b, ()) := by
  unfold decCmp
  cases h1 : decOk a
  · rfl
  · cases h2 : decOk b
    · rfl
    · exact hz h1 h2

theorem p_cmpI (x y : Int) : (bif decide (x < y) then some ((-1 : Int), ()) else (bif decide (y < x) then some ((1 : Int), ()) else some ((0 : Int), ()))) = some (cmpI x y, ()) := by
  unfold cmpI
  by_cases h : x < y
  · rw [decide_eq_true h, if_pos h]; rfl
  · rw [decide_eq_false h, if_neg h]
    by_cases h2 : y < x
    · rw [decide_eq_true h2, if_pos h2]; rfl
    · rw [decide_eq_false h2, if_neg h2]; rfl

theorem in03 : inq (3 : Int) 0 3 = true := rfl
theorem askOk_pl {t : MAsk} (h : askOk t = true) : inq t.2.2.2 0 3 = true := by
  unfold askOk at h
  simp only [Bool.and_eq_true] at h
  exact h.2.2.2.2

theorem p_spcIn (t : MAsk) (v : MDec) (z : Option (Bool × Unit)) (hz : askOk t = true → decOk v = true → z = some (decide (decCmp t.2.1 (atR v t.2.2.2) ≤ 0) && decide (decCmp (atR v t.2.2.2) t.2.2.1 ≤ 0), ())) :
    (bif (bif askOk t then false else true) then some (false, ()) else (bif (bif decOk v then false else true) then some (false, ()) else z)) = some (spcIn t v, ()) := by
  unfold spcIn
  cases h1 : askOk t
  · rfl
  · cases h2 : decOk v
    · rfl
    · exact hz h1 h2
end Go.Vm
