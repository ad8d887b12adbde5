/- Division of two words by one, half by half, said of natural numbers. -/
import Derived.Test.YtnhimgabcljahaaGreatDoorOwn
namespace Go.Proofs.YtnhimgabcljahaaGreatDoor.D64
/-- one half step of the division: q estimates N / y, with y = a * 2^32 + b -/
theorem cond_iff {q a b r u n : Nat} (h : q * a + r = u) : (q * b > 4294967296 * r + n) ↔ u * 4294967296 + n < q * (a * 4294967296 + b) := by
  have e : q * (a * 4294967296 + b) = q * a * 4294967296 + q * b := by rw [Nat.mul_add, Nat.mul_assoc]
  rw [e]
  generalize q * a = p at *
  generalize q * b = s at *
  omega
theorem gt_iff {q y N : Nat} (hy : 0 < y) : N / y < q ↔ N < q * y := Nat.div_lt_iff_lt_mul hy
/-- the estimate at the beginning -/
theorem start {u a b : Nat} (ha : 2147483648 ≤ a) (hb : b < 4294967296) (hu : u < a * 4294967296 + b) : u / a * a + u % a = u ∧ u / a ≤ 4294967297 ∧ u % a < a := by
  refine ⟨by rw [Nat.mul_comm]; exact Nat.div_add_mod u a, ?_, Nat.mod_lt _ (by omega)⟩
  have : u / a < 4294967298 := by
    rw [Nat.div_lt_iff_lt_mul (by omega)]
    omega
  omega
theorem start_ge {u a b n : Nat} (ha : 0 < a) (hn : n < 4294967296) : (u * 4294967296 + n) / (a * 4294967296 + b) ≤ u / a := by
  rw [← Nat.lt_add_one_iff, Nat.div_lt_iff_lt_mul (by omega)]
  have h := Nat.div_add_mod u a
  have h2 := Nat.mod_lt u ha
  have e : (u / a + 1) * (a * 4294967296 + b) = (a * (u / a) + a) * 4294967296 + (u / a + 1) * b := by
    rw [Nat.mul_add, ← Nat.mul_assoc, Nat.add_mul (u / a) 1 a, Nat.one_mul, Nat.mul_comm (u / a) a]
  rw [e]
  generalize a * (u / a) = p at *
  generalize (u / a + 1) * b = s at *
  omega
theorem quo_small {u y n : Nat} (hu : u < y) (hn : n < 4294967296) : (u * 4294967296 + n) / y < 4294967296 := by
  rw [Nat.div_lt_iff_lt_mul (by omega)]
  have : (u + 1) * 4294967296 ≤ y * 4294967296 := Nat.mul_le_mul_right _ hu
  omega
/-- what holds at the head of the loop -/
def Rel (u a b n q r : Nat) : Prop := q * a + r = u ∧ (u * 4294967296 + n) / (a * 4294967296 + b) ≤ q ∧ q ≤ 4294967297 ∧ r < 4294967296
theorem Rel.bounds {u a b n q r : Nat} (h : Rel u a b n q r) (hb : b < 4294967296) (hn : n < 4294967296) : q * b ≤ 18446744073709551615 ∧ 4294967296 * r + n ≤ 18446744073709551615 := by
  obtain ⟨_, _, h3, h4⟩ := h
  have := Nat.mul_le_mul h3 (show b ≤ 4294967295 by omega)
  omega
/-- the loop ends: the estimate is the quotient -/
theorem Rel.done {u a b n q r : Nat} (h : Rel u a b n q r) (hy : 0 < a * 4294967296 + b) (hc : ¬ 4294967296 * r + n < q * b) : q = (u * 4294967296 + n) / (a * 4294967296 + b) := by
  obtain ⟨h1, h2, _, _⟩ := h
  have := (cond_iff (b := b) (n := n) h1)
  have k : ¬ (u * 4294967296 + n) / (a * 4294967296 + b) < q := by
    rw [gt_iff hy, ← this]; exact hc
  omega
/-- one step down -/
theorem Rel.down {u a b n q r : Nat} (h : Rel u a b n q r) (hy : 0 < a * 4294967296 + b) (hu : u < a * 4294967296 + b) (hn : n < 4294967296) (ha : a < 4294967296) (hb : b < 4294967296) (hc : 4294967296 ≤ q ∨ 4294967296 * r + n < q * b) :
    1 ≤ q ∧ r + a < 8589934592 ∧ (r + a < 4294967296 → Rel u a b n (q - 1) (r + a)) ∧ (4294967296 ≤ r + a → q - 1 = (u * 4294967296 + n) / (a * 4294967296 + b)) := by
  obtain ⟨h1, h2, h3, h4⟩ := h
  have gt : (u * 4294967296 + n) / (a * 4294967296 + b) < q := by
    rcases hc with hc | hc
    · have := quo_small hu hn; omega
    · rw [gt_iff hy, ← cond_iff h1]; exact hc
  generalize hQ : (u * 4294967296 + n) / (a * 4294967296 + b) = Q at gt h2 ⊢
  obtain ⟨p, rfl⟩ : ∃ p, q = p + 1 := ⟨q - 1, by omega⟩
  have h5 : p * a + (r + a) = u := by rw [Nat.add_mul, Nat.one_mul] at h1; omega
  refine ⟨by omega, by omega, fun hr => ⟨by simpa using h5, by simp only [Nat.add_sub_cancel]; rw [hQ]; exact Nat.lt_succ_iff.1 gt, by simp only [Nat.add_sub_cancel]; omega, hr⟩, fun hr => ?_⟩
  have k : ¬ Q < p := by
    rw [← hQ, gt_iff hy, ← cond_iff h5]
    have := Nat.mul_le_mul (show p ≤ 4294967296 by omega) (show b ≤ 4294967295 by omega)
    omega
  simp only [Nat.add_sub_cancel]
  omega
/-- what is left, reckoned in a word -/
theorem rest_word {u y n q : Nat} (hy : 0 < y) (hy' : y < 18446744073709551616) (hq : q = (u * 4294967296 + n) / y) : ((u * 4294967296 + n : Nat) - (q * y : Nat) : Int) % 18446744073709551616 = (((u * 4294967296 + n) % y : Nat) : Int) := by
  have h := Nat.div_add_mod (u * 4294967296 + n) y
  have h2 := Nat.mod_lt (u * 4294967296 + n) hy
  have e : q * y = y * ((u * 4294967296 + n) / y) := by rw [hq, Nat.mul_comm]
  rw [e]
  generalize y * ((u * 4294967296 + n) / y) = p at *
  generalize (u * 4294967296 + n) % y = r at *
  rw [← h]
  have e2 : (((p + r : Nat) : Int) - (p : Nat)) = (r : Int) := by omega
  rw [e2, Int.emod_eq_of_lt (by omega) (by omega)]
/-- two half steps make the whole one -/
theorem two_steps {N n y : Nat} (hy : 0 < y) : (N * 4294967296 + n) / y = N / y * 4294967296 + (N % y * 4294967296 + n) / y ∧
    (N * 4294967296 + n) % y = (N % y * 4294967296 + n) % y := by
  have h := Nat.div_add_mod N y
  have e : N * 4294967296 + n = N / y * 4294967296 * y + (N % y * 4294967296 + n) := by
    have : N / y * 4294967296 * y = y * (N / y) * 4294967296 := by rw [Nat.mul_right_comm, Nat.mul_comm (N / y) y]
    rw [this]
    generalize y * (N / y) = p at *
    omega
  constructor
  · rw [e, Nat.mul_comm _ y, Nat.mul_add_div hy]
  · rw [e, Nat.mul_comm _ y, Nat.mul_add_mod]
theorem shift_div {v y p : Nat} (hp : 0 < p) : v * p / (y * p) = v / y ∧ v * p % (y * p) / p = v % y := by
  refine ⟨Nat.mul_div_mul_right v y hp, ?_⟩
  rw [Nat.mul_mod_mul_right, Nat.mul_div_cancel _ hp]
/-- the shift that brings the divisor's first bit to the top -/
theorem shift_parts {h l y c : Nat} (hc1 : 1 ≤ c) (hc2 : c ≤ 64) (b1 : 2 ^ (c - 1) ≤ y) (b2 : y < 2 ^ c) (hh : h < y) (hl : l < 18446744073709551616) :
    9223372036854775808 ≤ y * 2 ^ (64 - c) ∧ y * 2 ^ (64 - c) < 18446744073709551616 ∧ h * 2 ^ (64 - c) < 18446744073709551616 ∧ (h * 2 ^ (64 - c) ||| l / 2 ^ c) = h * 2 ^ (64 - c) + l / 2 ^ c ∧
    (h * 2 ^ (64 - c) + l / 2 ^ c) * 18446744073709551616 + l * 2 ^ (64 - c) % 18446744073709551616 = (h * 18446744073709551616 + l) * 2 ^ (64 - c) ∧
    h * 2 ^ (64 - c) + l / 2 ^ c < y * 2 ^ (64 - c) := by
  have e1 : 2 ^ (c - 1) * 2 ^ (64 - c) = 9223372036854775808 := by
    rw [← Nat.pow_add, show c - 1 + (64 - c) = 63 by omega]
  have e2 : 2 ^ c * 2 ^ (64 - c) = 18446744073709551616 := by
    rw [← Nat.pow_add, show c + (64 - c) = 64 by omega]
  have hP : 0 < 2 ^ (64 - c) := Nat.two_pow_pos _
  have hC : 0 < 2 ^ c := Nat.two_pow_pos _
  have g1 : 9223372036854775808 ≤ y * 2 ^ (64 - c) := by rw [← e1]; exact Nat.mul_le_mul_right _ b1
  have g2 : y * 2 ^ (64 - c) < 18446744073709551616 := by rw [← e2]; exact Nat.mul_lt_mul_of_pos_right b2 hP
  have g3 : h * 2 ^ (64 - c) < y * 2 ^ (64 - c) := Nat.mul_lt_mul_of_pos_right hh hP
  have g4 : l / 2 ^ c < 2 ^ (64 - c) := by
    rw [Nat.div_lt_iff_lt_mul hC, Nat.mul_comm, e2]; exact hl
  have g5 : (h * 2 ^ (64 - c) ||| l / 2 ^ c) = h * 2 ^ (64 - c) + l / 2 ^ c := by
    have := Nat.two_pow_add_eq_or_of_lt (i := 64 - c) (b := l / 2 ^ c) g4 h
    rw [Nat.mul_comm (2 ^ (64 - c)) h] at this
    exact this.symm
  have g6 : l * 2 ^ (64 - c) / 18446744073709551616 = l / 2 ^ c := by
    rw [← e2]; exact Nat.mul_div_mul_right l (2 ^ c) hP
  have g7 := Nat.div_add_mod (l * 2 ^ (64 - c)) 18446744073709551616
  rw [g6] at g7
  have g8 : (h * 2 ^ (64 - c) + l / 2 ^ c) * 18446744073709551616 + l * 2 ^ (64 - c) % 18446744073709551616 = (h * 18446744073709551616 + l) * 2 ^ (64 - c) := by
    rw [Nat.add_mul (h * 18446744073709551616) l, Nat.mul_right_comm h 18446744073709551616]
    generalize h * 2 ^ (64 - c) = x at *
    generalize l / 2 ^ c = z at *
    generalize l * 2 ^ (64 - c) = t at *
    omega
  refine ⟨g1, g2, by omega, g5, g8, ?_⟩
  have g9 : (h * 18446744073709551616 + l) * 2 ^ (64 - c) < y * 2 ^ (64 - c) * 18446744073709551616 := by
    have : h * 18446744073709551616 + l < y * 18446744073709551616 := by
      have := Nat.mul_le_mul_right 18446744073709551616 hh
      omega
    have := Nat.mul_lt_mul_of_pos_right this hP
    rw [Nat.mul_right_comm y 18446744073709551616] at this
    exact this
  rw [← g8] at g9
  generalize h * 2 ^ (64 - c) + l / 2 ^ c = x at *
  generalize y * 2 ^ (64 - c) = z at *
  omega
end Go.Proofs.YtnhimgabcljahaaGreatDoor.D64
