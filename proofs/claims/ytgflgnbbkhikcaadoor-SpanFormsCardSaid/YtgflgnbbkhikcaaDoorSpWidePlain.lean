/- Wide integers as magnitudes with a sign, said of integers: products, quotients. -/
import Derived.Test.YtgflgnbbkhikcaaDoorSpPlain
namespace Go.Proofs.YtgflgnbbkhikcaaDoor

/-- a wide integer as the program has it: its magnitude in two words, and whether it is negative -/
abbrev WN (v : Int) : Value := .agg #[.int .u64 ((v.natAbs / 18446744073709551616 : Nat) : Int), .int .u64 ((v.natAbs % 18446744073709551616 : Nat) : Int), .bool (decide (v < 0))]
def i64B (x : Int) : Bool := decide (-9223372036854775808 ≤ x ∧ x ≤ 9223372036854775807)
theorem i64B_iff {x : Int} : i64B x = true ↔ -9223372036854775808 ≤ x ∧ x ≤ 9223372036854775807 := by simp [i64B]
/-- a quotient rounded down or up -/
def quo (v b : Int) (u : Bool) : Int := if u = true then up v b else dn v b
def i64E (x : Int) : Int := if i64B x = true then 0 else 5
def i64V (x : Int) : Int := if i64B x = true then x else 0
theorem i64_yes {x : Int} (h : i64B x = true) : i64E x = 0 ∧ i64V x = x := by simp [i64E, i64V, h]
theorem i64_no {x : Int} (h : i64B x = false) : i64E x = 5 ∧ i64V x = 0 := by simp [i64E, i64V, h]
/-- what a magnitude with a sign is as an int -/
def sgn (n : Int) (b : Bool) : Int := if b = true then -n else n
def magn (v b : Int) (u : Bool) : Nat := v.natAbs / b.natAbs + (if v.natAbs % b.natAbs ≠ 0 ∧ ((decide (v < 0) != decide (b < 0)) != u) = true then 1 else 0)
theorem sgn_form (v : Int) : ∃ s : Int, (s = 1 ∨ s = -1) ∧ v = s * (v.natAbs : Int) ∧ (v < 0 ↔ s = -1) := by
  by_cases h : v < 0
  · exact ⟨-1, .inr rfl, by omega, by simp [h]⟩
  · exact ⟨1, .inl rfl, by omega, by simp [h]⟩
theorem quo_magn {v b : Int} (hb : b ≠ 0) (u : Bool) : quo v b u = if (decide (v < 0) != decide (b < 0)) = true then -(magn v b u : Int) else (magn v b u : Int) := by
  obtain ⟨s, hs, ev, hv⟩ := sgn_form v
  obtain ⟨t, ht, eb, hb'⟩ := sgn_form b
  have hd : 0 < b.natAbs := by omega
  have d1 := dn_mag (m := v.natAbs) hd s hs t ht
  have d2 := dn_mag (m := v.natAbs) hd (-s) (by omega) t ht
  rw [← ev, ← eb] at d1
  rw [← eb, show -s * (v.natAbs : Int) = -v by rw [Int.neg_mul, ← ev]] at d2
  unfold quo magn up
  rw [d1, d2]
  have e1 : decide (v < 0) = decide (s = -1) := decide_eq_decide.2 hv
  have e2 : decide (b < 0) = decide (t = -1) := decide_eq_decide.2 hb'
  rw [e1, e2]
  generalize v.natAbs / b.natAbs = q
  generalize v.natAbs % b.natAbs = r
  by_cases hr : r = 0
  · subst hr
    rcases hs with rfl | rfl <;> rcases ht with rfl | rfl <;> cases u <;> simp
  · rcases hs with rfl | rfl <;> rcases ht with rfl | rfl <;> cases u <;> simp [hr]
theorem mul_neg_iff (a b : Int) : decide (a * b < 0) = ((decide (a < 0) != decide (b < 0)) && decide (a * b ≠ 0)) := by
  rcases Int.lt_trichotomy a 0 with ha | ha | ha
  · rcases Int.lt_trichotomy b 0 with hb | hb | hb
    · have := Int.mul_pos_of_neg_of_neg ha hb
      simp [ha, hb]; omega
    · subst hb; simp
    · have := Int.mul_neg_of_neg_of_pos ha hb
      have h2 : ¬ b < 0 := by omega
      have h3 : a * b ≠ 0 := by omega
      simp [ha, h2, h3, this]
  · subst ha; simp
  · rcases Int.lt_trichotomy b 0 with hb | hb | hb
    · have := Int.mul_neg_of_pos_of_neg ha hb
      have h2 : ¬ a < 0 := by omega
      have h3 : a * b ≠ 0 := by omega
      simp [hb, h2, h3, this]
    · subst hb; simp
    · have := Int.mul_pos ha hb
      have h2 : ¬ a < 0 := by omega
      have h3 : ¬ b < 0 := by omega
      simp [h2, h3]; omega
theorem split_zero (n : Nat) : (((n / 18446744073709551616 : Nat) : Int) != 0 || ((n % 18446744073709551616 : Nat) : Int) != 0) = decide (n ≠ 0) := by
  rw [Bool.eq_iff_iff]; simp; omega
theorem wn_mul (a b : Int) : WN (a * b) = .agg #[.int .u64 ((a.natAbs * b.natAbs / 18446744073709551616 : Nat) : Int), .int .u64 ((a.natAbs * b.natAbs % 18446744073709551616 : Nat) : Int), .bool ((decide (a < 0) != decide (b < 0)) && (((a.natAbs * b.natAbs / 18446744073709551616 : Nat) : Int) != 0 || ((a.natAbs * b.natAbs % 18446744073709551616 : Nat) : Int) != 0))] := by
  have hN : (a * b).natAbs = a.natAbs * b.natAbs := Int.natAbs_mul a b
  rw [split_zero (a.natAbs * b.natAbs)]
  show Value.agg _ = _
  rw [mul_neg_iff a b, hN]
  have e : decide (a * b ≠ 0) = decide (a.natAbs * b.natAbs ≠ 0) := decide_eq_decide.2 (by omega)
  rw [e]
/-- n num / den, rounded down and up -/
def scE (n m d : Int) : Int := if d = 0 then 16 else if i64B (dn (n * m) d) = true ∧ i64B (up (n * m) d) = true then 0 else 5
def scLo (n m d : Int) : Int := if d ≠ 0 ∧ i64B (dn (n * m) d) = true ∧ i64B (up (n * m) d) = true then dn (n * m) d else 0
def scHi (n m d : Int) : Int := if d ≠ 0 ∧ i64B (dn (n * m) d) = true ∧ i64B (up (n * m) d) = true then up (n * m) d else 0
end Go.Proofs.YtgflgnbbkhikcaaDoor
