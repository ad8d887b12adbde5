/- Magnitudes of two words, said of natural numbers. -/
import Derived.Test.YtgflgnbbkhikcaaDoorBase
namespace Go.Proofs.YtgflgnbbkhikcaaDoor
open Go.RowKit

/-- a magnitude as a value: its high word and its low word -/
abbrev Uv (x : Nat) : Value := .agg #[.int .u64 ((x / 18446744073709551616 : Nat) : Int), .int .u64 ((x % 18446744073709551616 : Nat) : Int)]
abbrev U2 : Nat := 340282366920938463463374607431768211456
theorem words_lt {x : Nat} (h : x < 340282366920938463463374607431768211456) : x / 18446744073709551616 < 18446744073709551616 ∧ x % 18446744073709551616 < 18446744073709551616 ∧ x = x / 18446744073709551616 * 18446744073709551616 + x % 18446744073709551616 := by omega
theorem words_of {h l : Nat} (hl : l < 18446744073709551616) : (h * 18446744073709551616 + l) / 18446744073709551616 = h ∧ (h * 18446744073709551616 + l) % 18446744073709551616 = l := by omega
theorem mul_words {a b : Nat} (ha : a < 18446744073709551616) (hb : b < 18446744073709551616) :
    ∃ ah al bh bl p q r s mid oth H L : Nat, ah = a / 4294967296 ∧ al = a % 4294967296 ∧ bh = b / 4294967296 ∧ bl = b % 4294967296 ∧ s = al * bl ∧ q = ah * bl ∧ mid = q + s / 4294967296 ∧ r = al * bh ∧ oth = r + mid % 4294967296 ∧ p = ah * bh ∧
      H = p + mid / 4294967296 + oth / 4294967296 ∧ L = oth * 4294967296 % 18446744073709551616 + s % 4294967296 ∧ H * 18446744073709551616 + L = a * b ∧
      s < 18446744073709551616 ∧ q < 18446744073709551616 ∧ mid < 18446744073709551616 ∧ r < 18446744073709551616 ∧ oth < 18446744073709551616 ∧ p < 18446744073709551616 ∧ p + mid / 4294967296 < 18446744073709551616 ∧ H < 18446744073709551616 ∧ L < 18446744073709551616 := by
  have h1 : a = a / 4294967296 * 4294967296 + a % 4294967296 := by omega
  have h2 : b = b / 4294967296 * 4294967296 + b % 4294967296 := by omega
  have a1 : a / 4294967296 ≤ 4294967295 := by omega
  have a2 : a % 4294967296 ≤ 4294967295 := by omega
  have b1 : b / 4294967296 ≤ 4294967295 := by omega
  have b2 : b % 4294967296 ≤ 4294967295 := by omega
  have m1 := Nat.mul_le_mul a1 b1
  have m2 := Nat.mul_le_mul a1 b2
  have m3 := Nat.mul_le_mul a2 b1
  have m4 := Nat.mul_le_mul a2 b2
  have e : a * b = a / 4294967296 * (b / 4294967296) * 18446744073709551616 + (a / 4294967296 * (b % 4294967296) + a % 4294967296 * (b / 4294967296)) * 4294967296 + a % 4294967296 * (b % 4294967296) := by
    generalize a / 4294967296 = x at *
    generalize a % 4294967296 = y at *
    generalize b / 4294967296 = z at *
    generalize b % 4294967296 = t at *
    rw [h1, h2]; grind
  refine ⟨_, _, _, _, _, _, _, _, _, _, _, _, rfl, rfl, rfl, rfl, rfl, rfl, rfl, rfl, rfl, rfl, rfl, rfl, ?_⟩
  generalize a / 4294967296 * (b / 4294967296) = p at *
  generalize a / 4294967296 * (b % 4294967296) = q at *
  generalize a % 4294967296 * (b / 4294967296) = r at *
  generalize a % 4294967296 * (b % 4294967296) = s at *
  generalize a * b = z at *
  omega
/-- what the long division holds behind i rounds: of a, by b -/
structure DivRel (a b i : Nat) (x q r : Nat) : Prop where
  ex : x = a * 2 ^ i % 340282366920938463463374607431768211456
  eq : q = a * 2 ^ i / 340282366920938463463374607431768211456 / b
  er : r = a * 2 ^ i / 340282366920938463463374607431768211456 % b
theorem DivRel.start {a b : Nat} (ha : a < 340282366920938463463374607431768211456) (_hb : 0 < b) : DivRel a b 0 a 0 0 := by
  constructor <;> simp [Nat.div_eq_of_lt ha, Nat.mod_eq_of_lt ha]
theorem DivRel.fin {a b x q r : Nat} (h : DivRel a b 128 x q r) : q = a / b ∧ r = a % b := by
  have e : a * 2 ^ 128 / 340282366920938463463374607431768211456 = a := Nat.mul_div_cancel a (by omega)
  exact ⟨by rw [h.eq, e], by rw [h.er, e]⟩
theorem DivRel.bd {a b i x q r : Nat} (h : DivRel a b i x q r) (ha : a < 340282366920938463463374607431768211456) (hb : 0 < b) :
    x < 340282366920938463463374607431768211456 ∧ r < b ∧ q < 2 ^ i := by
  refine ⟨by rw [h.ex]; exact Nat.mod_lt _ (by omega), by rw [h.er]; exact Nat.mod_lt _ hb, ?_⟩
  rw [h.eq]
  have : a * 2 ^ i / 340282366920938463463374607431768211456 < 2 ^ i := by
    rw [Nat.div_lt_iff_lt_mul (by omega), Nat.mul_comm]
    exact Nat.mul_lt_mul_of_pos_left ha (Nat.two_pow_pos i)
  exact Nat.lt_of_le_of_lt (Nat.div_le_self _ _) this
/-- the next round: the bit that comes in, and whether b is taken away -/
theorem DivRel.next {a b i x q r : Nat} (h : DivRel a b i x q r) (hb : 0 < b) :
    DivRel a b (i + 1) (x * 2 % 340282366920938463463374607431768211456) (if b ≤ r * 2 + x / 170141183460469231731687303715884105728 then q * 2 + 1 else q * 2)
      (if b ≤ r * 2 + x / 170141183460469231731687303715884105728 then r * 2 + x / 170141183460469231731687303715884105728 - b else r * 2 + x / 170141183460469231731687303715884105728) := by
  obtain ⟨ex, eq, er⟩ := h
  have hx : a * 2 ^ (i + 1) = a * 2 ^ i * 2 := by rw [Nat.pow_succ, Nat.mul_assoc]
  generalize a * 2 ^ i = A at *
  have t : a * 2 ^ (i + 1) / 340282366920938463463374607431768211456 = A / 340282366920938463463374607431768211456 * 2 + x / 170141183460469231731687303715884105728 := by rw [hx]; omega
  have hr : r < b := by rw [er]; exact Nat.mod_lt _ hb
  have hq : A / 340282366920938463463374607431768211456 = b * q + r := by rw [eq, er]; exact (Nat.div_add_mod _ _).symm
  have hbit : x / 170141183460469231731687303715884105728 ≤ 1 := by omega
  generalize x / 170141183460469231731687303715884105728 = bit at *
  refine ⟨by rw [hx]; omega, ?_, ?_⟩
  · rw [t, hq]
    split
    · have e : (b * q + r) * 2 + bit = (r * 2 + bit - b) + b * (q * 2 + 1) := by
        have : b * (q * 2 + 1) = b * q * 2 + b := by grind
        omega
      rw [e, Nat.add_mul_div_left _ _ hb, Nat.div_eq_of_lt (by omega)]; omega
    · have e : (b * q + r) * 2 + bit = (r * 2 + bit) + b * (q * 2) := by
        have : b * (q * 2) = b * q * 2 := by grind
        omega
      rw [e, Nat.add_mul_div_left _ _ hb, Nat.div_eq_of_lt (by omega)]; omega
  · rw [t, hq]
    split
    · have e : (b * q + r) * 2 + bit = (r * 2 + bit - b) + b * (q * 2 + 1) := by
        have : b * (q * 2 + 1) = b * q * 2 + b := by grind
        omega
      rw [e, Nat.add_mul_mod_self_left, Nat.mod_eq_of_lt (by omega)]
    · have e : (b * q + r) * 2 + bit = (r * 2 + bit) + b * (q * 2) := by
        have : b * (q * 2) = b * q * 2 := by grind
        omega
      rw [e, Nat.add_mul_mod_self_left, Nat.mod_eq_of_lt (by omega)]
end Go.Proofs.YtgflgnbbkhikcaaDoor
