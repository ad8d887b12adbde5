/- Parts of one proof, joined: Present values, said of integers: later costs less; and a lower or wider trench is greater. Wide integers as magnitudes with a sign, said of integers: products, quotients. Tables of intensities, said of lists: where a number is in an ascending list, and values on the line through points. math/bits.Div64 where the high word is 0; it leaves memory as it is. Division of two words by one, half by half, said of natural numbers. -/
import Derived.Test.YtdcdfjinbieblaaGreatDoorPkCostsPipes2
import Derived.Test.YtdcdfjinbieblaaGreatDoorPkCostsPipes1
import Derived.Deep.QuietTactic
import Derived.BigQuiet
import Derived.StillTailTactics
import Derived.Deep.RegionHeld3
namespace Go.Proofs.YtdcdfjinbieblaaGreatDoor

theorem dn_mono {n m d : Int} (hd : 0 < d) (h : n ≤ m) : dn n d ≤ dn m d := by
  obtain ⟨k1, _⟩ := dn_bd (n := n) hd
  obtain ⟨_, k2⟩ := dn_bd (n := m) hd
  have : dn n d * d < (dn m d + 1) * d := by omega
  have := Int.lt_of_mul_lt_mul_right this (by omega)
  omega
theorem up_mono {n m d : Int} (hd : 0 < d) (h : n ≤ m) : up n d ≤ up m d := by
  have := dn_mono (n := -m) (m := -n) hd (by omega)
  unfold up; omega
theorem dn_nn {n d : Int} (hd : 0 < d) (h : 0 ≤ n) : 0 ≤ dn n d := by
  unfold dn; rw [if_neg (by omega)]; exact Int.ediv_nonneg h (by omega)
theorem up_nn {n d : Int} (hd : 0 < d) (h : 0 ≤ n) : 0 ≤ up n d := by
  obtain ⟨k1, _⟩ := up_bd (n := n) hd
  rcases Int.lt_or_le (up n d) 0 with k | k
  · have : up n d * d ≤ (-1) * d := Int.mul_le_mul_of_nonneg_right (by omega) (by omega)
    omega
  · exact k
theorem dn_up {n d : Int} (hd : 0 < d) : dn n d ≤ up n d := by
  obtain ⟨k1, _⟩ := dn_bd (n := n) hd
  obtain ⟨j1, _⟩ := up_bd (n := n) hd
  exact Int.le_of_mul_le_mul_right (by omega : dn n d * d ≤ up n d * d) hd
theorem dn_den {n d e : Int} (hd : 0 < d) (he : d ≤ e) (h : 0 ≤ n) : dn n e ≤ dn n d := by
  obtain ⟨k1, _⟩ := dn_bd (n := n) (d := e) (by omega)
  obtain ⟨_, k2⟩ := dn_bd (n := n) hd
  have h0 := dn_nn (n := n) (d := e) (by omega) h
  have : dn n e * d ≤ dn n e * e := Int.mul_le_mul_of_nonneg_left he h0
  have : dn n e * d < (dn n d + 1) * d := by omega
  have := Int.lt_of_mul_lt_mul_right this (by omega)
  omega
theorem up_den {n d e : Int} (hd : 0 < d) (he : d ≤ e) (h : 0 ≤ n) : up n e ≤ up n d := by
  obtain ⟨_, k1⟩ := up_bd (n := n) (d := e) (by omega)
  obtain ⟨k2, _⟩ := up_bd (n := n) hd
  have h0 := up_nn (n := n) hd h
  have : up n d * d ≤ up n d * e := Int.mul_le_mul_of_nonneg_left he h0
  have : (up n e - 1) * e < up n d * e := by omega
  have := Int.lt_of_mul_lt_mul_right this (by omega)
  omega
/-- so many years of a rate n / d -/
def prL (n d : Int) : Nat → Int → Int
  | 0, c => c
  | y + 1, c => dn (prL n d y c * d) (d + n)
def prU (n d : Int) : Nat → Int → Int
  | 0, c => c
  | y + 1, c => up (prU n d y c * d) (d + n)
theorem prL_add (n d : Int) (a c) : ∀ b, prL n d (a + b) c = prL n d b (prL n d a c)
  | 0 => rfl
  | b + 1 => by rw [← Nat.add_assoc]; simp only [prL]; rw [prL_add n d a c b]
theorem prU_add (n d : Int) (a c) : ∀ b, prU n d (a + b) c = prU n d b (prU n d a c)
  | 0 => rfl
  | b + 1 => by rw [← Nat.add_assoc]; simp only [prU]; rw [prU_add n d a c b]
theorem dn_step {n d x : Int} (hn : 0 ≤ n) (hd : 1 ≤ d) (hx : 0 ≤ x) : 0 ≤ dn (x * d) (d + n) ∧ dn (x * d) (d + n) ≤ x := by
  have h0 : 0 ≤ x * d := Int.mul_nonneg hx (by omega)
  refine ⟨dn_nn (by omega) h0, ?_⟩
  obtain ⟨k1, _⟩ := dn_bd (n := x * d) (d := d + n) (by omega)
  have : x * d ≤ x * (d + n) := Int.mul_le_mul_of_nonneg_left (by omega) hx
  exact Int.le_of_mul_le_mul_right (by omega : dn (x * d) (d + n) * (d + n) ≤ x * (d + n)) (by omega)
theorem up_step {n d x : Int} (hn : 0 ≤ n) (hd : 1 ≤ d) (hx : 0 ≤ x) : 0 ≤ up (x * d) (d + n) ∧ up (x * d) (d + n) ≤ x := by
  have h0 : 0 ≤ x * d := Int.mul_nonneg hx (by omega)
  refine ⟨up_nn (by omega) h0, ?_⟩
  obtain ⟨_, k1⟩ := up_bd (n := x * d) (d := d + n) (by omega)
  have : x * d ≤ x * (d + n) := Int.mul_le_mul_of_nonneg_left (by omega) hx
  have : (up (x * d) (d + n) - 1) * (d + n) < x * (d + n) := by omega
  have := Int.lt_of_mul_lt_mul_right this (by omega)
  omega
theorem pr_bd {n d c : Int} (hn : 0 ≤ n) (hd : 1 ≤ d) (hc : 0 ≤ c) : ∀ y, 0 ≤ prL n d y c ∧ prL n d y c ≤ prU n d y c ∧ prU n d y c ≤ c
  | 0 => by simp [prL, prU]; omega
  | y + 1 => by
    obtain ⟨h1, h2, h3⟩ := pr_bd hn hd hc y
    simp only [prL, prU]
    have a := dn_step hn hd h1
    have b := up_step hn hd (x := prU n d y c) (by omega)
    have m : dn (prL n d y c * d) (d + n) ≤ dn (prU n d y c * d) (d + n) := dn_mono (by omega) (Int.mul_le_mul_of_nonneg_right h2 (by omega))
    have k := dn_up (n := prU n d y c * d) (d := d + n) (by omega)
    omega
theorem pr_later {n d c : Int} (hn : 0 ≤ n) (hd : 1 ≤ d) (hc : 0 ≤ c) (a : Nat) : ∀ b, prL n d (a + b) c ≤ prL n d a c ∧ prU n d (a + b) c ≤ prU n d a c
  | 0 => ⟨Int.le_refl _, Int.le_refl _⟩
  | b + 1 => by
    obtain ⟨h1, h2⟩ := pr_later hn hd hc a b
    obtain ⟨k1, k2, _⟩ := pr_bd hn hd hc (a + b)
    rw [← Nat.add_assoc]
    simp only [prL, prU]
    have a1 := dn_step hn hd k1
    have b1 := up_step hn hd (x := prU n d (a + b) c) (by omega)
    omega
theorem pr_rate {n m d c : Int} (hn : 0 ≤ n) (hm : n ≤ m) (hd : 1 ≤ d) (hc : 0 ≤ c) : ∀ y, prL m d y c ≤ prL n d y c ∧ prU m d y c ≤ prU n d y c
  | 0 => ⟨Int.le_refl _, Int.le_refl _⟩
  | y + 1 => by
    obtain ⟨h1, h2⟩ := pr_rate hn hm hd hc y
    obtain ⟨k1, k2, _⟩ := pr_bd (n := m) (by omega) hd hc y
    obtain ⟨j1, j2, _⟩ := pr_bd hn hd hc y
    simp only [prL, prU]
    have x1 := dn_den (n := prL m d y c * d) (d := d + n) (e := d + m) (by omega) (by omega) (Int.mul_nonneg k1 (by omega))
    have x2 : dn (prL m d y c * d) (d + n) ≤ dn (prL n d y c * d) (d + n) := dn_mono (by omega) (Int.mul_le_mul_of_nonneg_right h1 (by omega))
    have y1 := up_den (n := prU m d y c * d) (d := d + n) (e := d + m) (by omega) (by omega) (Int.mul_nonneg (by omega) (by omega))
    have y2 : up (prU m d y c * d) (d + n) ≤ up (prU n d y c * d) (d + n) := up_mono (by omega) (Int.mul_le_mul_of_nonneg_right h2 (by omega))
    omega
theorem pr_cost {n d c e : Int} (hn : 0 ≤ n) (hd : 1 ≤ d) (hc : 0 ≤ c) (he : c ≤ e) : ∀ y, prL n d y c ≤ prL n d y e ∧ prU n d y c ≤ prU n d y e
  | 0 => ⟨he, he⟩
  | y + 1 => by
    obtain ⟨h1, h2⟩ := pr_cost hn hd hc he y
    simp only [prL, prU]
    exact ⟨dn_mono (by omega) (Int.mul_le_mul_of_nonneg_right h1 (by omega)), up_mono (by omega) (Int.mul_le_mul_of_nonneg_right h2 (by omega))⟩
theorem pr_two {n d c : Int} (hn : 0 ≤ n) (hd : 1 ≤ d) : prL n d 2 c * ((d + n) * (d + n)) ≤ c * d * d ∧ c * d * d ≤ prU n d 2 c * ((d + n) * (d + n)) := by
  have hs : 0 < d + n := by omega
  obtain ⟨a1, _⟩ := dn_bd (n := c * d) hs
  obtain ⟨a2, _⟩ := dn_bd (n := dn (c * d) (d + n) * d) hs
  obtain ⟨b1, _⟩ := up_bd (n := c * d) hs
  obtain ⟨b2, _⟩ := up_bd (n := up (c * d) (d + n) * d) hs
  simp only [prL, prU]
  generalize hx : dn (c * d) (d + n) = x at *
  generalize hy : up (c * d) (d + n) = y at *
  generalize dn (x * d) (d + n) = u at *
  generalize up (y * d) (d + n) = v at *
  generalize d + n = s at *
  have e1 : u * s * s ≤ x * d * s := Int.mul_le_mul_of_nonneg_right a2 (by omega)
  have e2 : x * s * d ≤ c * d * d := Int.mul_le_mul_of_nonneg_right a1 (by omega)
  have e3 : y * d * s ≤ v * s * s := Int.mul_le_mul_of_nonneg_right b2 (by omega)
  have e4 : c * d * d ≤ y * s * d := Int.mul_le_mul_of_nonneg_right b1 (by omega)
  have r1 : u * (s * s) = u * s * s := (Int.mul_assoc ..).symm
  have r2 : v * (s * s) = v * s * s := (Int.mul_assoc ..).symm
  have r3 : x * d * s = x * s * d := by rw [Int.mul_assoc, Int.mul_comm d s, ← Int.mul_assoc]
  have r4 : y * d * s = y * s * d := by rw [Int.mul_assoc, Int.mul_comm d s, ← Int.mul_assoc]
  omega
/-- a present value, or the error -/
def prB (c n d y : Int) : Bool := decide (0 ≤ c) && decide (c ≤ 1125899906842624) && (decide (0 ≤ n) && decide (n ≤ 10000)) && (decide (1 ≤ d) && decide (d ≤ 10000)) && (decide (0 ≤ y) && decide (y ≤ 200))
def prE (c n d y : Int) : Int := if prB c n d y = true then 0 else 2
def prS (c n d y : Int) : Sp := if prB c n d y = true then ⟨prL n d y.toNat c, prU n d y.toNat c⟩ else Sp.zero
theorem prB_iff {c n d y : Int} : prB c n d y = true ↔ (0 ≤ c ∧ c ≤ 1125899906842624) ∧ (0 ≤ n ∧ n ≤ 10000) ∧ (1 ≤ d ∧ d ≤ 10000) ∧ 0 ≤ y ∧ y ≤ 200 := by
  simp only [prB, Bool.and_eq_true, decide_eq_true_eq]; omega
/-- a pipe that lies lower lies lower everywhere -/
theorem pip_mono {u d u' d' : Int} (hu : u' ≤ u) (hd : d' ≤ d) {k : Nat} (hk : k ≤ 16) : u' + pHi u' d' k ≤ u + pHi u d k ∧ u' + pLo u' d' k ≤ u + pLo u d k := by
  have m1 : u' * (16 - (k : Int)) ≤ u * (16 - (k : Int)) := Int.mul_le_mul_of_nonneg_right hu (by omega)
  have m2 : d' * (k : Int) ≤ d * (k : Int) := Int.mul_le_mul_of_nonneg_right hd (by omega)
  have e1 : (d - u) * (k : Int) = d * (k : Int) + u * (16 - (k : Int)) - 16 * u := by grind
  have e2 : (d' - u') * (k : Int) = d' * (k : Int) + u' * (16 - (k : Int)) - 16 * u' := by grind
  unfold pHi pLo up dn
  rw [e1, e2]
  have hxy : d' * (k : Int) + u' * (16 - (k : Int)) ≤ d * (k : Int) + u * (16 - (k : Int)) := by omega
  generalize d * (k : Int) + u * (16 - (k : Int)) = x at *
  generalize d' * (k : Int) + u' * (16 - (k : Int)) = y at *
  simp only [show ¬ ((16 : Int) < 0) by omega, if_false]
  omega
theorem cv_mono {m : Msh} {a b : Pnt} {u d u' d' : Int} (hu : u' ≤ u) (hd : d' ≤ d) {k : Nat} (hk : k ≤ 16) : cvL m a b u d k ≤ cvL m a b u' d' k ∧ cvH m a b u d k ≤ cvH m a b u' d' k := by
  obtain ⟨h1, h2⟩ := pip_mono hu hd hk
  unfold cvL cvH
  rcases tms_two k with e | e <;> rw [e] <;> omega
theorem sm_mono {m : Msh} {a b : Pnt} {u d u' d' : Int} (hu : u' ≤ u) (hd : d' ≤ d) : ∀ k : Nat, k ≤ 17 → smL m a b u d k ≤ smL m a b u' d' k ∧ smH m a b u d k ≤ smH m a b u' d' k
  | 0, _ => ⟨Int.le_refl _, Int.le_refl _⟩
  | k + 1, hk => by
    have i := sm_mono (m := m) (a := a) (b := b) hu hd k (by omega)
    have c := cv_mono (m := m) (a := a) (b := b) hu hd (k := k) (by omega)
    simp only [smL, smH]
    omega
theorem trS_lo (m : Msh) (a b : Pnt) (u d wd : Int) : (trS m a b u d wd).lo = dn (smL m a b u d 17 * ((dsS a b).lo * wd)) 32000 := rfl
theorem trS_hi (m : Msh) (a b : Pnt) (u d wd : Int) : (trS m a b u d wd).hi = up (smH m a b u d 17 * ((dsS a b).hi * wd)) 32000 := rfl
theorem trS_ok {m : Msh} (hm : vM m = true) {a b : Pnt} (ha : a.in) (hb : b.in) {u d wd : Int} (hr : rngB u d wd = true) (hl : allL m a b 17 = true) : 0 ≤ (trS m a b u d wd).lo ∧ (trS m a b u d wd).lo ≤ (trS m a b u d wd).hi := by
  obtain ⟨h1, h2, h3, h4⟩ := rngB_iff.1 hr
  obtain ⟨s1, s2, _⟩ := sm_bd hm h1 h2 hl 17 (by omega) (by omega)
  obtain ⟨d1, d2, _⟩ := dsS_bd ha hb
  have p1 : 0 ≤ (dsS a b).lo * wd := Int.mul_nonneg d1 (by omega)
  have p2 : (dsS a b).lo * wd ≤ (dsS a b).hi * wd := Int.mul_le_mul_of_nonneg_right d2 (by omega)
  have q1 : 0 ≤ smL m a b u d 17 * ((dsS a b).lo * wd) := Int.mul_nonneg s1 p1
  have q2 : smL m a b u d 17 * ((dsS a b).lo * wd) ≤ smH m a b u d 17 * ((dsS a b).hi * wd) := Int.mul_le_mul s2 p2 p1 (by omega)
  rw [trS_lo, trS_hi]
  refine ⟨dn_nn (by omega) q1, ?_⟩
  have := dn_mono (d := 32000) (by omega) q2
  have := dn_up (n := smH m a b u d 17 * ((dsS a b).hi * wd)) (d := 32000) (by omega)
  omega
theorem trS_deep {m : Msh} (hm : vM m = true) {a b : Pnt} (ha : a.in) (hb : b.in) {u d wd u' d' wd' : Int} (hr : rngB u d wd = true) (hl : allL m a b 17 = true) (hu : u' ≤ u) (hd : d' ≤ d) (hw : wd ≤ wd') :
    (trS m a b u d wd).lo ≤ (trS m a b u' d' wd').lo ∧ (trS m a b u d wd).hi ≤ (trS m a b u' d' wd').hi := by
  obtain ⟨h1, h2, h3, h4⟩ := rngB_iff.1 hr
  obtain ⟨s1, s2, _⟩ := sm_bd hm h1 h2 hl 17 (by omega) (by omega)
  obtain ⟨m1, m2⟩ := sm_mono (m := m) (a := a) (b := b) hu hd 17 (by omega)
  obtain ⟨d1, d2, _⟩ := dsS_bd ha hb
  have p1 : (dsS a b).lo * wd ≤ (dsS a b).lo * wd' := Int.mul_le_mul_of_nonneg_left hw d1
  have p2 : (dsS a b).hi * wd ≤ (dsS a b).hi * wd' := Int.mul_le_mul_of_nonneg_left hw (by omega)
  have z1 : 0 ≤ (dsS a b).lo * wd := Int.mul_nonneg d1 (by omega)
  have z2 : 0 ≤ (dsS a b).hi * wd := Int.mul_nonneg (by omega) (by omega)
  simp only [trS_lo, trS_hi]
  exact ⟨dn_mono (by omega) (Int.mul_le_mul m1 p1 z1 (by omega)), up_mono (by omega) (Int.mul_le_mul m2 p2 z2 (by omega))⟩
theorem sm_none {m : Msh} (hm : vM m = true) {a b : Pnt} {n : Nat} (h : allL m a b n = true) : ∀ k : Nat, k ≤ n → k ≤ 17 → smL m a b 4194304 4194304 k = 0 ∧ smH m a b 4194304 4194304 k = 0
  | 0, _, _ => ⟨rfl, rfl⟩
  | k + 1, hk, hk' => by
    obtain ⟨i1, i2⟩ := sm_none hm h k (by omega) (by omega)
    obtain ⟨⟨l1, l2⟩, ⟨l3, l4⟩, l5⟩ := lvG_bd hm h (k := k) (by omega)
    have e1 : pHi 4194304 4194304 k = 0 := by simp [pHi, up, dn]
    have e2 : pLo 4194304 4194304 k = 0 := by simp [pLo, dn]
    simp only [smL, smH, cvL, cvH, i1, i2, e1, e2]
    rcases tms_two k with e | e <;> rw [e] <;> omega
theorem trS_none {m : Msh} (hm : vM m = true) {a b : Pnt} (h : allL m a b 17 = true) (wd : Int) : trS m a b 4194304 4194304 wd = Sp.zero := by
  obtain ⟨i1, i2⟩ := sm_none hm h 17 (by omega) (by omega)
  simp [trS, i1, i2, Sp.zero, up, dn]
end Go.Proofs.YtdcdfjinbieblaaGreatDoor

namespace Go.Proofs.YtdcdfjinbieblaaGreatDoor

/-- a wide integer as the program has it: its magnitude in two words, and whether it is negative -/
abbrev WN (v : Int) : Value := .agg #[.int .u64 ((v.natAbs / 18446744073709551616 : Nat) : Int), .int .u64 ((v.natAbs % 18446744073709551616 : Nat) : Int), .bool (decide (v < 0))]
def i64B (x : Int) : Bool := decide (-9223372036854775808 ≤ x ∧ x ≤ 9223372036854775807)
theorem i64B_iff {x : Int} : i64B x = true ↔ -9223372036854775808 ≤ x ∧ x ≤ 9223372036854775807 := by simp [i64B]
/-- a quotient rounded down or up -/
def quo (v b : Int) (u : Bool) : Int := if u = true then up v b else dn v b
def i64E (x : Int) : Int := if i64B x = true then 0 else 5
def i64V (x : Int) : Int := if i64B x = true then x else 0
theorem i64_yes {x : Int} (h : i64B x = true) : i64E x = 0 ∧ i64V x = x := by simp [i64E, i64V, h]
theorem i64_no {x : Int} (h : i64B x = false) : i64E x = 5 ∧ i64V x = 0 := by simp [i64E, i64V, h]
/-- what a magnitude with a sign is as an int -/
def sgn (n : Int) (b : Bool) : Int := if b = true then -n else n
def magn (v b : Int) (u : Bool) : Nat := v.natAbs / b.natAbs + (if v.natAbs % b.natAbs ≠ 0 ∧ ((decide (v < 0) != decide (b < 0)) != u) = true then 1 else 0)
theorem sgn_form (v : Int) : ∃ s : Int, (s = 1 ∨ s = -1) ∧ v = s * (v.natAbs : Int) ∧ (v < 0 ↔ s = -1) := by
  by_cases h : v < 0
  · exact ⟨-1, .inr rfl, by omega, by simp [h]⟩
  · exact ⟨1, .inl rfl, by omega, by simp [h]⟩
theorem quo_magn {v b : Int} (hb : b ≠ 0) (u : Bool) : quo v b u = if (decide (v < 0) != decide (b < 0)) = true then -(magn v b u : Int) else (magn v b u : Int) := by
  obtain ⟨s, hs, ev, hv⟩ := sgn_form v
  obtain ⟨t, ht, eb, hb'⟩ := sgn_form b
  have hd : 0 < b.natAbs := by omega
  have d1 := dn_mag (m := v.natAbs) hd s hs t ht
  have d2 := dn_mag (m := v.natAbs) hd (-s) (by omega) t ht
  rw [← ev, ← eb] at d1
  rw [← eb, show -s * (v.natAbs : Int) = -v by rw [Int.neg_mul, ← ev]] at d2
  unfold quo magn up
  rw [d1, d2]
  have e1 : decide (v < 0) = decide (s = -1) := decide_eq_decide.2 hv
  have e2 : decide (b < 0) = decide (t = -1) := decide_eq_decide.2 hb'
  rw [e1, e2]
  generalize v.natAbs / b.natAbs = q
  generalize v.natAbs % b.natAbs = r
  by_cases hr : r = 0
  · subst hr
    rcases hs with rfl | rfl <;> rcases ht with rfl | rfl <;> cases u <;> simp
  · rcases hs with rfl | rfl <;> rcases ht with rfl | rfl <;> cases u <;> simp [hr]
theorem mul_neg_iff (a b : Int) : decide (a * b < 0) = ((decide (a < 0) != decide (b < 0)) && decide (a * b ≠ 0)) := by
  rcases Int.lt_trichotomy a 0 with ha | ha | ha
  · rcases Int.lt_trichotomy b 0 with hb | hb | hb
    · have := Int.mul_pos_of_neg_of_neg ha hb
      simp [ha, hb]; omega
    · subst hb; simp
    · have := Int.mul_neg_of_neg_of_pos ha hb
      have h2 : ¬ b < 0 := by omega
      have h3 : a * b ≠ 0 := by omega
      simp [ha, h2, h3, this]
  · subst ha; simp
  · rcases Int.lt_trichotomy b 0 with hb | hb | hb
    · have := Int.mul_neg_of_pos_of_neg ha hb
      have h2 : ¬ a < 0 := by omega
      have h3 : a * b ≠ 0 := by omega
      simp [hb, h2, h3, this]
    · subst hb; simp
    · have := Int.mul_pos ha hb
      have h2 : ¬ a < 0 := by omega
      have h3 : ¬ b < 0 := by omega
      simp [h2, h3]; omega
theorem split_zero (n : Nat) : (((n / 18446744073709551616 : Nat) : Int) != 0 || ((n % 18446744073709551616 : Nat) : Int) != 0) = decide (n ≠ 0) := by
  rw [Bool.eq_iff_iff]; simp; omega
theorem wn_mul (a b : Int) : WN (a * b) = .agg #[.int .u64 ((a.natAbs * b.natAbs / 18446744073709551616 : Nat) : Int), .int .u64 ((a.natAbs * b.natAbs % 18446744073709551616 : Nat) : Int), .bool ((decide (a < 0) != decide (b < 0)) && (((a.natAbs * b.natAbs / 18446744073709551616 : Nat) : Int) != 0 || ((a.natAbs * b.natAbs % 18446744073709551616 : Nat) : Int) != 0))] := by
  have hN : (a * b).natAbs = a.natAbs * b.natAbs := Int.natAbs_mul a b
  rw [split_zero (a.natAbs * b.natAbs)]
  show Value.agg _ = _
  rw [mul_neg_iff a b, hN]
  have e : decide (a * b ≠ 0) = decide (a.natAbs * b.natAbs ≠ 0) := decide_eq_decide.2 (by omega)
  rw [e]
/-- n num / den, rounded down and up -/
def scE (n m d : Int) : Int := if d = 0 then 16 else if i64B (dn (n * m) d) = true ∧ i64B (up (n * m) d) = true then 0 else 5
def scLo (n m d : Int) : Int := if d ≠ 0 ∧ i64B (dn (n * m) d) = true ∧ i64B (up (n * m) d) = true then dn (n * m) d else 0
def scHi (n m d : Int) : Int := if d ≠ 0 ∧ i64B (dn (n * m) d) = true ∧ i64B (up (n * m) d) = true then up (n * m) d else 0
end Go.Proofs.YtdcdfjinbieblaaGreatDoor

namespace Go.Proofs.YtdcdfjinbieblaaGreatDoor
open Go.RowKit

/-- numbers that ascend strictly -/
def Asc (l : List Int) : Prop := ∀ i, i + 1 < l.length → l.getD i 0 < l.getD (i + 1) 0
theorem Asc.lt {l : List Int} (h : Asc l) {i : Nat} : ∀ {j : Nat}, i < j → j < l.length → l.getD i 0 < l.getD j 0
  | 0, hij, _ => absurd hij (by omega)
  | j + 1, hij, hj => by
    have s := h j hj
    by_cases e : i = j
    · subst e; exact s
    · have := Asc.lt h (i := i) (j := j) (by omega) (by omega)
      omega
theorem Asc.le {l : List Int} (h : Asc l) {i j : Nat} (hij : i ≤ j) (hj : j < l.length) : l.getD i 0 ≤ l.getD j 0 := by
  by_cases e : i = j
  · subst e; omega
  · have := h.lt (i := i) (j := j) (by omega) hj; omega
theorem Asc.inj {l : List Int} (h : Asc l) {i j : Nat} (hi : i < l.length) (hj : j < l.length) (e : l.getD i 0 = l.getD j 0) : i = j := by
  rcases Nat.lt_trichotomy i j with k | k | k
  · have := h.lt k hj; omega
  · exact k
  · have := h.lt k hi; omega

/-- a place between two neighbours of a list, or at one of its numbers -/
structure Pl where
  lo : Nat
  hi : Nat
  rest : Int
  whole : Int
def IsPl (l : List Int) (x : Int) (p : Pl) : Prop :=
  p.hi < l.length ∧ ((p.hi = p.lo ∧ p.rest = 0 ∧ p.whole = 1 ∧ l.getD p.lo 0 = x) ∨ (p.hi = p.lo + 1 ∧ l.getD p.lo 0 < x ∧ x < l.getD p.hi 0 ∧ p.rest = x - l.getD p.lo 0 ∧ p.whole = l.getD p.hi 0 - l.getD p.lo 0))
def Pl.val (p : Pl) (f : Nat → Int) : Int := (p.whole - p.rest) * f p.lo + p.rest * f p.hi
theorem IsPl.bd {l : List Int} {x : Int} {p : Pl} (h : IsPl l x p) : 0 ≤ p.rest ∧ p.rest < p.whole ∧ p.lo ≤ p.hi ∧ p.lo < l.length ∧ 0 < p.whole ∧ l.getD p.lo 0 ≤ x ∧ x ≤ l.getD p.hi 0 := by
  obtain ⟨h1, ⟨a, b, c, d⟩ | ⟨a, b, c, d, e⟩⟩ := h
  · rw [a]; omega
  · omega
theorem IsPl.unique {l : List Int} (ha : Asc l) {x : Int} {p q : Pl} (h : IsPl l x p) (k : IsPl l x q) : p = q := by
  have b := h.bd
  have b' := k.bd
  obtain ⟨h1, h2⟩ := h
  obtain ⟨k1, k2⟩ := k
  have elo : p.lo = q.lo := by
    rcases Nat.lt_trichotomy p.lo q.lo with s | s | s
    · exfalso
      have t := ha.lt s b'.2.2.2.1
      rcases h2 with ⟨a, _, _, d⟩ | ⟨a, _, c, _⟩
      · omega
      · have := ha.le (i := p.hi) (j := q.lo) (by omega) b'.2.2.2.1
        omega
    · exact s
    · exfalso
      have t := ha.lt s b.2.2.2.1
      rcases k2 with ⟨a, _, _, d⟩ | ⟨a, _, c, _⟩
      · omega
      · have := ha.le (i := q.hi) (j := p.lo) (by omega) b.2.2.2.1
        omega
  cases p; cases q
  simp only at elo
  subst elo
  simp only [Pl.mk.injEq, true_and] at *
  rcases h2 with ⟨a, b1, c, d⟩ | ⟨a, b1, c, d, e⟩ <;> rcases k2 with ⟨a', b1', c', d'⟩ | ⟨a', b1', c', d', e'⟩
  · omega
  · omega
  · omega
  · subst a a'
    omega
/-- how many numbers are at most x -/
def cnt (l : List Int) (x : Int) : Nat := (l.takeWhile fun a => decide (a ≤ x)).length
theorem cnt_le (l : List Int) (x : Int) : cnt l x ≤ l.length := (List.takeWhile_sublist _).length_le
theorem cnt_lt : ∀ (l : List Int) (x : Int) (i : Nat), i < cnt l x → l.getD i 0 ≤ x
  | [], _, i, h => by simp [cnt] at h
  | a :: l, x, i, h => by
    unfold cnt at h
    rw [List.takeWhile_cons] at h
    split at h
    · rename_i hx
      have hx' : a ≤ x := by simpa using hx
      cases i with
      | zero => simpa using hx'
      | succ i => simpa using cnt_lt l x i (by simpa [cnt] using h)
    · simp at h
theorem cnt_ge : ∀ (l : List Int) (x : Int), cnt l x < l.length → x < l.getD (cnt l x) 0
  | [], _, h => by simp at h
  | a :: l, x, h => by
    by_cases hx : a ≤ x
    · have e : cnt (a :: l) x = cnt l x + 1 := by simp [cnt, hx]
      rw [e] at h ⊢
      simpa using cnt_ge l x (by simpa using h)
    · have e : cnt (a :: l) x = 0 := by simp [cnt, hx]
      rw [e]; simp; omega
/-- the place of a number that is within a list -/
def plc (l : List Int) (x : Int) : Pl :=
  if l.getD (cnt l x - 1) 0 = x then ⟨cnt l x - 1, cnt l x - 1, 0, 1⟩ else ⟨cnt l x - 1, cnt l x, x - l.getD (cnt l x - 1) 0, l.getD (cnt l x) 0 - l.getD (cnt l x - 1) 0⟩
def inL (l : List Int) (x : Int) : Bool := decide (l.getD 0 0 ≤ x ∧ x ≤ l.getD (l.length - 1) 0)
theorem inL_iff {l : List Int} {x : Int} : inL l x = true ↔ l.getD 0 0 ≤ x ∧ x ≤ l.getD (l.length - 1) 0 := by simp [inL]
theorem plc_is {l : List Int} (_ha : Asc l) {x : Int} (hn : 1 ≤ l.length) (h1 : l.getD 0 0 ≤ x) (h2 : x ≤ l.getD (l.length - 1) 0) : IsPl l x (plc l x) := by
  have c0 : 1 ≤ cnt l x := by
    rcases Nat.eq_zero_or_pos (cnt l x) with e | e
    · have := cnt_ge l x (by omega)
      rw [e] at this; omega
    · exact e
  have c1 := cnt_le l x
  have lo := cnt_lt l x (cnt l x - 1) (by omega)
  unfold plc
  split
  · rename_i e
    exact ⟨by simp only; omega, .inl ⟨rfl, rfl, rfl, e⟩⟩
  · rename_i e
    have c2 : cnt l x < l.length := by
      rcases Nat.lt_or_ge (cnt l x) l.length with k | k
      · exact k
      · have : cnt l x - 1 = l.length - 1 := by omega
        rw [this] at lo e; omega
    have hi := cnt_ge l x c2
    exact ⟨c2, .inr ⟨by simp only; omega, by simp only; omega, hi, rfl, rfl⟩⟩
theorem plc_eq {l : List Int} (ha : Asc l) {x : Int} (hn : 1 ≤ l.length) {p : Pl} (h : IsPl l x p) : p = plc l x := by
  have b := h.bd
  refine h.unique ha (plc_is ha hn ?_ ?_)
  · have := ha.le (i := 0) (j := p.lo) (Nat.zero_le _) b.2.2.2.1; omega
  · have := ha.le (i := p.hi) (j := l.length - 1) (by have := h.1; omega) (by omega); omega
theorem plc_at {l : List Int} (ha : Asc l) {i : Nat} (hi : i < l.length) : plc l (l.getD i 0) = ⟨i, i, 0, 1⟩  := by
  have h : IsPl l (l.getD i 0) (⟨i, i, 0, 1⟩ : Pl) := ⟨hi, Or.inl ⟨Eq.refl i, Eq.refl 0, Eq.refl 1, Eq.refl _⟩⟩
  exact (plc_eq ha (by omega) h).symm

/-- values that do not descend -/
def Mon (n : Nat) (f : Nat → Int) : Prop := ∀ i j, i ≤ j → j < n → f i ≤ f j
theorem Mon.of_step {n : Nat} {f : Nat → Int} (h : ∀ i, i + 1 < n → f i ≤ f (i + 1)) : Mon n f := by
  intro i j
  induction j with
  | zero => intro h1 _; have : i = 0 := by omega
            subst this; exact Int.le_refl _
  | succ j ih =>
    intro h1 h2
    by_cases e : i = j + 1
    · subst e; exact Int.le_refl _
    · have := ih (by omega) (by omega)
      have := h j h2
      omega
theorem lin0 (w r a b : Int) : (w - r) * a + r * b = w * a + r * (b - a) := by grind
theorem lin1 (w r a b : Int) : (w - r) * a + r * b = w * b - (w - r) * (b - a) := by grind
theorem val_bd {l : List Int} {x : Int} {p : Pl} (h : IsPl l x p) {f : Nat → Int} (hm : Mon l.length f) : f p.lo * p.whole ≤ p.val f ∧ p.val f ≤ f p.hi * p.whole := by
  have b := h.bd
  have hf := hm p.lo p.hi b.2.2.1 h.1
  have e0 : p.val f = p.whole * f p.lo + p.rest * (f p.hi - f p.lo) := lin0 ..
  have e1 : p.val f = p.whole * f p.hi - (p.whole - p.rest) * (f p.hi - f p.lo) := lin1 ..
  have m0 : 0 ≤ p.rest * (f p.hi - f p.lo) := Int.mul_nonneg b.1 (by omega)
  have m1 : 0 ≤ (p.whole - p.rest) * (f p.hi - f p.lo) := Int.mul_nonneg (by omega) (by omega)
  constructor
  · rw [e0, Int.mul_comm]; omega
  · rw [e1, Int.mul_comm]; omega
/-- the values on the line through the points do not descend -/
theorem val_mono {l : List Int} (ha : Asc l) {x y : Int} {p q : Pl} (h : IsPl l x p) (k : IsPl l y q) {f : Nat → Int} (hm : Mon l.length f) (hxy : x ≤ y) : p.val f * q.whole ≤ q.val f * p.whole := by
  have b := h.bd
  have b' := k.bd
  by_cases c : p.hi ≤ q.lo
  · have v1 := (val_bd h hm).2
    have v2 := (val_bd k hm).1
    have f1 := hm p.hi q.lo c b'.2.2.2.1
    have s1 : p.val f * q.whole ≤ f p.hi * p.whole * q.whole := Int.mul_le_mul_of_nonneg_right v1 (by omega)
    have s2 : f p.hi * p.whole * q.whole ≤ f q.lo * p.whole * q.whole := Int.mul_le_mul_of_nonneg_right (Int.mul_le_mul_of_nonneg_right f1 (by omega)) (by omega)
    have s3 : f q.lo * q.whole * p.whole ≤ q.val f * p.whole := Int.mul_le_mul_of_nonneg_right v2 (by omega)
    have s4 : f q.lo * p.whole * q.whole = f q.lo * q.whole * p.whole := by grind
    omega
  · obtain ⟨h1, h2⟩ := h
    obtain ⟨k1, k2⟩ := k
    have e : p.lo = q.lo ∧ p.hi = q.hi ∧ p.whole = q.whole ∧ p.rest ≤ q.rest := by
      rcases h2 with ⟨a, r, w, d⟩ | ⟨a, d, e, r, w⟩
      · exfalso
        have := ha.lt (i := q.lo) (j := p.lo) (by omega) b.2.2.2.1
        rcases k2 with ⟨a', _, _, d'⟩ | ⟨a', _, d', _⟩
        · omega
        · have := ha.le (i := q.hi) (j := p.lo) (by omega) b.2.2.2.1
          omega
      · by_cases s : p.lo = q.lo
        · rcases k2 with ⟨a', r', w', d'⟩ | ⟨a', d', e', r', w'⟩
          · rw [s] at d; omega
          · have t : p.hi = q.hi := by omega
            rw [s, t] at w; rw [s] at r
            omega
        · exfalso
          have := ha.lt (i := q.lo) (j := p.lo) (by omega) b.2.2.2.1
          rcases k2 with ⟨a', _, _, d'⟩ | ⟨a', _, d', _⟩
          · omega
          · have := ha.le (i := q.hi) (j := p.lo) (by omega) b.2.2.2.1
            omega
    obtain ⟨e1, e2, e3, e4⟩ := e
    have hf := hm p.lo p.hi b.2.2.1 h1
    rw [e3]
    refine Int.mul_le_mul_of_nonneg_right ?_ (by omega)
    unfold Pl.val
    rw [← e1, ← e2, ← e3]
    have m0 : 0 ≤ (q.rest - p.rest) * (f p.hi - f p.lo) := Int.mul_nonneg (by omega) (by omega)
    have m1 : (p.whole - q.rest) * f p.lo + q.rest * f p.hi - ((p.whole - p.rest) * f p.lo + p.rest * f p.hi) = (q.rest - p.rest) * (f p.hi - f p.lo) := by grind
    omega
theorem val_le {p : Pl} {f g : Nat → Int} (h0 : 0 ≤ p.rest) (h1 : p.rest ≤ p.whole) (hl : f p.lo ≤ g p.lo) (hh : f p.hi ≤ g p.hi) : p.val f ≤ p.val g := by
  unfold Pl.val
  have a := Int.mul_le_mul_of_nonneg_left hl (show 0 ≤ p.whole - p.rest by omega)
  have b := Int.mul_le_mul_of_nonneg_left hh h0
  omega
theorem val_mul (p : Pl) (f : Nat → Int) (c : Int) : p.val (fun i => f i * c) = p.val f * c := by unfold Pl.val; grind
theorem val_comm (p q : Pl) (f : Nat → Nat → Int) : p.val (fun j => q.val (f j)) = q.val (fun i => p.val (fun j => f j i)) := by unfold Pl.val; grind

/-- quotients, rounded up -/
def cdiv (n d : Int) : Int := (n + d - 1) / d
theorem fdiv_le {n d m e : Int} (hd : 0 < d) (he : 0 < e) (h : n * e ≤ m * d) : n / d ≤ m / e := by
  rw [Int.le_ediv_iff_mul_le he]
  have a : n / d * d ≤ n := Int.ediv_mul_le n (by omega)
  have b : n / d * d * e ≤ n * e := Int.mul_le_mul_of_nonneg_right a (by omega)
  have c : n / d * e * d ≤ m * d := by have : n / d * e * d = n / d * d * e := by grind
                                       omega
  exact Int.le_of_mul_le_mul_right c hd
theorem cdiv_iff {n d q : Int} (hd : 0 < d) : cdiv n d ≤ q ↔ n ≤ q * d := by
  unfold cdiv
  constructor
  · intro h
    have a : (n + d - 1) < ((n + d - 1) / d + 1) * d := Int.lt_ediv_add_one_mul_self _ hd
    have b : ((n + d - 1) / d + 1) * d ≤ (q + 1) * d := Int.mul_le_mul_of_nonneg_right (by omega) (by omega)
    have c : (q + 1) * d = q * d + d := by grind
    omega
  · intro h
    have : (n + d - 1) / d < q + 1 := by
      rw [Int.ediv_lt_iff_lt_mul hd]
      have c : (q + 1) * d = q * d + d := by grind
      omega
    omega
theorem cdiv_le {n d m e : Int} (hd : 0 < d) (he : 0 < e) (h : n * e ≤ m * d) : cdiv n d ≤ cdiv m e := by
  rw [cdiv_iff hd]
  have a : m ≤ cdiv m e * e := (cdiv_iff he).1 (Int.le_refl _)
  have b : m * d ≤ cdiv m e * e * d := Int.mul_le_mul_of_nonneg_right a (by omega)
  have c : n * e ≤ cdiv m e * d * e := by have : cdiv m e * d * e = cdiv m e * e * d := by grind
                                          omega
  exact Int.le_of_mul_le_mul_right c he
theorem fc_le {n d : Int} (hd : 0 < d) : n / d ≤ cdiv n d ∧ cdiv n d ≤ n / d + 1 := by
  constructor
  · exact Int.ediv_le_ediv hd (by omega)
  · rw [cdiv_iff hd]
    have a : n < (n / d + 1) * d := Int.lt_ediv_add_one_mul_self _ hd
    omega
/-- both quotients are a number just where it is exact -/
theorem fc_eq {n d q : Int} (hd : 0 < d) : (n / d = q ∧ cdiv n d = q) ↔ n = q * d := by
  constructor
  · rintro ⟨h1, h2⟩
    have a := (cdiv_iff (n := n) hd (q := q)).1 (by omega)
    have b := (Int.le_ediv_iff_mul_le (a := q) (b := n) hd).1 (by omega)
    omega
  · rintro rfl
    refine ⟨Int.mul_ediv_cancel _ (by omega), ?_⟩
    have a := (cdiv_iff (n := q * d) hd (q := q)).2 (Int.le_refl _)
    have b := (fc_le (n := q * d) hd).1
    rw [Int.mul_ediv_cancel _ (by omega)] at b
    omega
end Go.Proofs.YtdcdfjinbieblaaGreatDoor

namespace Go.Proofs.YtdcdfjinbieblaaGreatDoor
open Go.RowKit

theorem ret2_int {k k' : IntKind} {a b c d : Int} (h : a = b) (h' : c = d) : Ending.returned (.tuple #[.int k a, .int k' c]) = .returned (.tuple #[.int k b, .int k' d]) := by rw [h, h']
/-- Div64 where the high word is 0 -/
theorem div64_low (l y : Nat) (hl : l < 18446744073709551616) (hy : 0 < y) (hy' : y < 18446744073709551616) (w : World) :
    Calls Tryz.prog 99 #[.int .u64 0, .int .u64 l, .int .u64 y] w fun e w' => e = .returned (.tuple #[.int .u64 ((l / y : Nat) : Int), .int .u64 ((l % y : Nat) : Int)]) ∧ ∃ n, w' = w.drewN n := by
  have g1 : (0 : Int) < (y : Int) := by omega
  have g2 : (y : Int) ≠ 0 := by omega
  have g3 : ((y : Int) == 0) = false := by simp; omega
  go_enter Tryz.func99, Tryz.ntmps99
  go_wp2
  go_quiet (fail)
  go_wp2
  go_ret2
  refine ⟨ret2_int ?_ (by simp), _, rfl⟩
  have hd : l / y ≤ l := Nat.div_le_self _ _
  have e : (l : Int) / (y : Int) = ((l / y : Nat) : Int) := by simp
  rw [e, IntKind.wrap_u64]
  generalize l / y = k at *
  omega
end Go.Proofs.YtdcdfjinbieblaaGreatDoor

namespace Go.Proofs.YtdcdfjinbieblaaGreatDoor.D64
/-- one half step of the division: q estimates N / y, with y = a * 2^32 + b -/
theorem cond_iff {q a b r u n : Nat} (h : q * a + r = u) : (q * b > 4294967296 * r + n) ↔ u * 4294967296 + n < q * (a * 4294967296 + b) := by
  have e : q * (a * 4294967296 + b) = q * a * 4294967296 + q * b := by rw [Nat.mul_add, Nat.mul_assoc]
  rw [e]
  generalize q * a = p at *
  generalize q * b = s at *
  omega
theorem gt_iff {q y N : Nat} (hy : 0 < y) : N / y < q ↔ N < q * y := Nat.div_lt_iff_lt_mul hy
/-- the estimate at the beginning -/
theorem start {u a b : Nat} (ha : 2147483648 ≤ a) (hb : b < 4294967296) (hu : u < a * 4294967296 + b) : u / a * a + u % a = u ∧ u / a ≤ 4294967297 ∧ u % a < a := by
  refine ⟨by rw [Nat.mul_comm]; exact Nat.div_add_mod u a, ?_, Nat.mod_lt _ (by omega)⟩
  have : u / a < 4294967298 := by
    rw [Nat.div_lt_iff_lt_mul (by omega)]
    omega
  omega
theorem start_ge {u a b n : Nat} (ha : 0 < a) (hn : n < 4294967296) : (u * 4294967296 + n) / (a * 4294967296 + b) ≤ u / a := by
  rw [← Nat.lt_add_one_iff, Nat.div_lt_iff_lt_mul (by omega)]
  have h := Nat.div_add_mod u a
  have h2 := Nat.mod_lt u ha
  have e : (u / a + 1) * (a * 4294967296 + b) = (a * (u / a) + a) * 4294967296 + (u / a + 1) * b := by
    rw [Nat.mul_add, ← Nat.mul_assoc, Nat.add_mul (u / a) 1 a, Nat.one_mul, Nat.mul_comm (u / a) a]
  rw [e]
  generalize a * (u / a) = p at *
  generalize (u / a + 1) * b = s at *
  omega
theorem quo_small {u y n : Nat} (hu : u < y) (hn : n < 4294967296) : (u * 4294967296 + n) / y < 4294967296 := by
  rw [Nat.div_lt_iff_lt_mul (by omega)]
  have : (u + 1) * 4294967296 ≤ y * 4294967296 := Nat.mul_le_mul_right _ hu
  omega
/-- what holds at the head of the loop -/
def Rel (u a b n q r : Nat) : Prop := q * a + r = u ∧ (u * 4294967296 + n) / (a * 4294967296 + b) ≤ q ∧ q ≤ 4294967297 ∧ r < 4294967296
theorem Rel.bounds {u a b n q r : Nat} (h : Rel u a b n q r) (hb : b < 4294967296) (hn : n < 4294967296) : q * b ≤ 18446744073709551615 ∧ 4294967296 * r + n ≤ 18446744073709551615 := by
  obtain ⟨_, _, h3, h4⟩ := h
  have := Nat.mul_le_mul h3 (show b ≤ 4294967295 by omega)
  omega
/-- the loop ends: the estimate is the quotient -/
theorem Rel.done {u a b n q r : Nat} (h : Rel u a b n q r) (hy : 0 < a * 4294967296 + b) (hc : ¬ 4294967296 * r + n < q * b) : q = (u * 4294967296 + n) / (a * 4294967296 + b) := by
  obtain ⟨h1, h2, _, _⟩ := h
  have := (cond_iff (b := b) (n := n) h1)
  have k : ¬ (u * 4294967296 + n) / (a * 4294967296 + b) < q := by
    rw [gt_iff hy, ← this]; exact hc
  omega
/-- one step down -/
theorem Rel.down {u a b n q r : Nat} (h : Rel u a b n q r) (hy : 0 < a * 4294967296 + b) (hu : u < a * 4294967296 + b) (hn : n < 4294967296) (ha : a < 4294967296) (hb : b < 4294967296) (hc : 4294967296 ≤ q ∨ 4294967296 * r + n < q * b) :
    1 ≤ q ∧ r + a < 8589934592 ∧ (r + a < 4294967296 → Rel u a b n (q - 1) (r + a)) ∧ (4294967296 ≤ r + a → q - 1 = (u * 4294967296 + n) / (a * 4294967296 + b)) := by
  obtain ⟨h1, h2, h3, h4⟩ := h
  have gt : (u * 4294967296 + n) / (a * 4294967296 + b) < q := by
    rcases hc with hc | hc
    · have := quo_small hu hn; omega
    · rw [gt_iff hy, ← cond_iff h1]; exact hc
  generalize hQ : (u * 4294967296 + n) / (a * 4294967296 + b) = Q at gt h2 ⊢
  obtain ⟨p, rfl⟩ : ∃ p, q = p + 1 := ⟨q - 1, by omega⟩
  have h5 : p * a + (r + a) = u := by rw [Nat.add_mul, Nat.one_mul] at h1; omega
  refine ⟨by omega, by omega, fun hr => ⟨by simpa using h5, by simp only [Nat.add_sub_cancel]; rw [hQ]; exact Nat.lt_succ_iff.1 gt, by simp only [Nat.add_sub_cancel]; omega, hr⟩, fun hr => ?_⟩
  have k : ¬ Q < p := by
    rw [← hQ, gt_iff hy, ← cond_iff h5]
    have := Nat.mul_le_mul (show p ≤ 4294967296 by omega) (show b ≤ 4294967295 by omega)
    omega
  simp only [Nat.add_sub_cancel]
  omega
/-- what is left, reckoned in a word -/
theorem rest_word {u y n q : Nat} (hy : 0 < y) (hy' : y < 18446744073709551616) (hq : q = (u * 4294967296 + n) / y) : ((u * 4294967296 + n : Nat) - (q * y : Nat) : Int) % 18446744073709551616 = (((u * 4294967296 + n) % y : Nat) : Int) := by
  have h := Nat.div_add_mod (u * 4294967296 + n) y
  have h2 := Nat.mod_lt (u * 4294967296 + n) hy
  have e : q * y = y * ((u * 4294967296 + n) / y) := by rw [hq, Nat.mul_comm]
  rw [e]
  generalize y * ((u * 4294967296 + n) / y) = p at *
  generalize (u * 4294967296 + n) % y = r at *
  rw [← h]
  have e2 : (((p + r : Nat) : Int) - (p : Nat)) = (r : Int) := by omega
  rw [e2, Int.emod_eq_of_lt (by omega) (by omega)]
/-- two half steps make the whole one -/
theorem two_steps {N n y : Nat} (hy : 0 < y) : (N * 4294967296 + n) / y = N / y * 4294967296 + (N % y * 4294967296 + n) / y ∧
    (N * 4294967296 + n) % y = (N % y * 4294967296 + n) % y := by
  have h := Nat.div_add_mod N y
  have e : N * 4294967296 + n = N / y * 4294967296 * y + (N % y * 4294967296 + n) := by
    have : N / y * 4294967296 * y = y * (N / y) * 4294967296 := by rw [Nat.mul_right_comm, Nat.mul_comm (N / y) y]
    rw [this]
    generalize y * (N / y) = p at *
    omega
  constructor
  · rw [e, Nat.mul_comm _ y, Nat.mul_add_div hy]
  · rw [e, Nat.mul_comm _ y, Nat.mul_add_mod]
theorem shift_div {v y p : Nat} (hp : 0 < p) : v * p / (y * p) = v / y ∧ v * p % (y * p) / p = v % y := by
  refine ⟨Nat.mul_div_mul_right v y hp, ?_⟩
  rw [Nat.mul_mod_mul_right, Nat.mul_div_cancel _ hp]
/-- the shift that brings the divisor's first bit to the top -/
theorem shift_parts {h l y c : Nat} (hc1 : 1 ≤ c) (hc2 : c ≤ 64) (b1 : 2 ^ (c - 1) ≤ y) (b2 : y < 2 ^ c) (hh : h < y) (hl : l < 18446744073709551616) :
    9223372036854775808 ≤ y * 2 ^ (64 - c) ∧ y * 2 ^ (64 - c) < 18446744073709551616 ∧ h * 2 ^ (64 - c) < 18446744073709551616 ∧ (h * 2 ^ (64 - c) ||| l / 2 ^ c) = h * 2 ^ (64 - c) + l / 2 ^ c ∧
    (h * 2 ^ (64 - c) + l / 2 ^ c) * 18446744073709551616 + l * 2 ^ (64 - c) % 18446744073709551616 = (h * 18446744073709551616 + l) * 2 ^ (64 - c) ∧
    h * 2 ^ (64 - c) + l / 2 ^ c < y * 2 ^ (64 - c) := by
  have e1 : 2 ^ (c - 1) * 2 ^ (64 - c) = 9223372036854775808 := by
    rw [← Nat.pow_add, show c - 1 + (64 - c) = 63 by omega]
  have e2 : 2 ^ c * 2 ^ (64 - c) = 18446744073709551616 := by
    rw [← Nat.pow_add, show c + (64 - c) = 64 by omega]
  have hP : 0 < 2 ^ (64 - c) := Nat.two_pow_pos _
  have hC : 0 < 2 ^ c := Nat.two_pow_pos _
  have g1 : 9223372036854775808 ≤ y * 2 ^ (64 - c) := by rw [← e1]; exact Nat.mul_le_mul_right _ b1
  have g2 : y * 2 ^ (64 - c) < 18446744073709551616 := by rw [← e2]; exact Nat.mul_lt_mul_of_pos_right b2 hP
  have g3 : h * 2 ^ (64 - c) < y * 2 ^ (64 - c) := Nat.mul_lt_mul_of_pos_right hh hP
  have g4 : l / 2 ^ c < 2 ^ (64 - c) := by
    rw [Nat.div_lt_iff_lt_mul hC, Nat.mul_comm, e2]; exact hl
  have g5 : (h * 2 ^ (64 - c) ||| l / 2 ^ c) = h * 2 ^ (64 - c) + l / 2 ^ c := by
    have := Nat.two_pow_add_eq_or_of_lt (i := 64 - c) (b := l / 2 ^ c) g4 h
    rw [Nat.mul_comm (2 ^ (64 - c)) h] at this
    exact this.symm
  have g6 : l * 2 ^ (64 - c) / 18446744073709551616 = l / 2 ^ c := by
    rw [← e2]; exact Nat.mul_div_mul_right l (2 ^ c) hP
  have g7 := Nat.div_add_mod (l * 2 ^ (64 - c)) 18446744073709551616
  rw [g6] at g7
  have g8 : (h * 2 ^ (64 - c) + l / 2 ^ c) * 18446744073709551616 + l * 2 ^ (64 - c) % 18446744073709551616 = (h * 18446744073709551616 + l) * 2 ^ (64 - c) := by
    rw [Nat.add_mul (h * 18446744073709551616) l, Nat.mul_right_comm h 18446744073709551616]
    generalize h * 2 ^ (64 - c) = x at *
    generalize l / 2 ^ c = z at *
    generalize l * 2 ^ (64 - c) = t at *
    omega
  refine ⟨g1, g2, by omega, g5, g8, ?_⟩
  have g9 : (h * 18446744073709551616 + l) * 2 ^ (64 - c) < y * 2 ^ (64 - c) * 18446744073709551616 := by
    have : h * 18446744073709551616 + l < y * 18446744073709551616 := by
      have := Nat.mul_le_mul_right 18446744073709551616 hh
      omega
    have := Nat.mul_lt_mul_of_pos_right this hP
    rw [Nat.mul_right_comm y 18446744073709551616] at this
    exact this
  rw [← g8] at g9
  generalize h * 2 ^ (64 - c) + l / 2 ^ c = x at *
  generalize y * 2 ^ (64 - c) = z at *
  omega
end Go.Proofs.YtdcdfjinbieblaaGreatDoor.D64
