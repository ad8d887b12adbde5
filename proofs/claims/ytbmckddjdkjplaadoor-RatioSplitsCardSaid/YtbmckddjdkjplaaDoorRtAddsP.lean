/- Shares add up, said of integers: each share is within 1 of its exact part, and what is summed is the first sums' parts. -/
import Derived.Test.YtbmckddjdkjplaaDoorRtShareP
namespace Go.Proofs.YtbmckddjdkjplaaDoor

def mW (l : List Int) : List Int := l.map fun x => x % 1048577
theorem mW_length (l : List Int) : (mW l).length = l.length := by simp [mW]
theorem mW_at (l : List Int) (k : Nat) (h : k < l.length) : (mW l)[k]'(by rw [mW_length]; exact h) = l[k] % 1048577 := by simp [mW]
theorem mW_bd (l : List Int) (k : Nat) (h : k < (mW l).length) : 0 ≤ (mW l)[k] ∧ (mW l)[k] ≤ 1048576 := by
  have h' : k < l.length := by rw [mW_length] at h; exact h
  rw [mW_at l k h']
  omega
theorem mW_ok (l : List Int) : wOk (mW l) := fun i h => by have := mW_bd l i h; omega
theorem mW_pre (l : List Int) : ∀ k, k ≤ (mW l).length → 0 ≤ preS (mW l) k ∧ preS (mW l) k ≤ k * 1048576
  | 0, _ => by simp [preS_zero]
  | k + 1, hk => by
    have i := mW_pre l k (by omega)
    have j := mW_bd l k (by omega)
    rw [preS_succ (mW l) k (by omega)]
    omega
theorem mW_sum (l : List Int) : 0 ≤ (mW l).sum ∧ (mW l).sum ≤ l.length * 1048576 := by
  have h := mW_pre l (mW l).length (Nat.le_refl _)
  rw [preS_all] at h
  rw [mW_length] at h
  exact h
theorem mW_shE (l : List Int) (T : Nat) (hl : l.length ≤ 200) (hT : T ≤ 1099511627776) : shE (T : Int) (mW l) = if (mW l).sum = 0 then 16 else 0 := by
  have h1 := mW_sum l
  have h2 := mW_length l
  have h3 := wB_iff.2 (mW_ok l)
  unfold shE
  rw [if_neg (by omega), if_neg (by omega), if_neg (by rw [h3]; simp), if_neg (by omega)]
theorem div_add {x y S : Int} (hS : 0 < S) : y / S ≤ (x + y) / S - x / S ∧ (x + y) / S - x / S ≤ y / S + 1 := by
  have a1 := Int.mul_ediv_add_emod x S
  have a2 := Int.mul_ediv_add_emod y S
  have a3 := Int.mul_ediv_add_emod (x + y) S
  have b1 := Int.emod_nonneg x (show S ≠ 0 by omega)
  have b2 := Int.emod_nonneg y (show S ≠ 0 by omega)
  have b3 := Int.emod_nonneg (x + y) (show S ≠ 0 by omega)
  have c1 := Int.emod_lt_of_pos x hS
  have c2 := Int.emod_lt_of_pos y hS
  have c3 := Int.emod_lt_of_pos (x + y) hS
  generalize x / S = p at *
  generalize y / S = q at *
  generalize (x + y) / S = r at *
  generalize x % S = u at *
  generalize y % S = v at *
  generalize (x + y) % S = z at *
  have e : S * (r - p - q) = u + v - z := by rw [Int.mul_sub, Int.mul_sub]; omega
  have l1 : -1 < r - p - q := by
    rcases Int.lt_or_le (-1) (r - p - q) with h | h
    · exact h
    · have : S * (r - p - q) ≤ S * (-1) := Int.mul_le_mul_of_nonneg_left h (by omega)
      omega
  have l2 : r - p - q < 2 := by
    rcases Int.lt_or_le (r - p - q) 2 with h | h
    · exact h
    · have : S * 2 ≤ S * (r - p - q) := Int.mul_le_mul_of_nonneg_left h (by omega)
      omega
  omega
theorem part_low {t m S : Int} (hS : 0 < S) : t / S * m + t % S * m / S = t * m / S := by
  have a1 := Int.mul_ediv_add_emod t S
  have e : t * m = t % S * m + t / S * m * S := by
    have : t * m = (S * (t / S) + t % S) * m := by rw [a1]
    rw [this]; grind
  rw [e, Int.add_mul_ediv_right _ _ (by omega)]
  omega
/-- what the law's second loop meets at the k-th share -/
theorem adds_at {l : List Int} {T : Nat} (hl : l.length ≤ 200) (hT : T ≤ 1099511627776) (hS : 0 < (mW l).sum) (k : Nat) (hk : k < (mW l).length) :
    ∃ n q r m S low : Int, qK T (mW l).sum (mW l) (k + 1) - qK T (mW l).sum (mW l) k = n ∧ (mW l)[k] = m ∧ (mW l).sum = S ∧ 0 < S ∧ S ≤ 209715200 ∧ 0 ≤ n ∧ n ≤ T ∧ (m = 0 → n = 0) ∧ 0 ≤ m ∧ m ≤ 1048576 ∧
      (T : Int).tdiv S = q ∧ (T : Int).tmod S = r ∧ 0 ≤ q ∧ q ≤ 1099511627776 ∧ 0 ≤ r ∧ r < S ∧ 0 ≤ q * m ∧ q * m ≤ 1152921504606846976 ∧ 0 ≤ r * m ∧ r * m ≤ 219902325555200 ∧ (r * m).tdiv S = r * m / S ∧ 0 ≤ r * m / S ∧ r * m / S ≤ 1048576 ∧
      q * m + r * m / S = low ∧ low ≤ n ∧ n ≤ low + 1 ∧ qK T (mW l).sum (mW l) k + n = qK T (mW l).sum (mW l) (k + 1) ∧ 0 ≤ qK T (mW l).sum (mW l) k ∧ qK T (mW l).sum (mW l) k ≤ T := by
  have hm := mW_bd l k hk
  have hs := mW_sum l
  have hw := mW_ok l
  have q0 := qK_bd (t := (T : Int)) (by omega) hS hw (Int.le_refl _) k (by omega)
  have q1 := qK_bd (t := (T : Int)) (by omega) hS hw (Int.le_refl _) (k + 1) (by omega)
  have qm := qK_mono (t := (T : Int)) (by omega) hS hw (show k ≤ k + 1 by omega) (by omega)
  have e : (T : Int) * preS (mW l) (k + 1) = (T : Int) * preS (mW l) k + (T : Int) * (mW l)[k] := by rw [preS_succ (mW l) k hk, Int.mul_add]
  have d := div_add (x := (T : Int) * preS (mW l) k) (y := (T : Int) * (mW l)[k]) hS
  have pl := part_low (t := (T : Int)) (m := (mW l)[k]) hS
  rw [← e] at d
  have u1 : qK T (mW l).sum (mW l) (k + 1) = (T : Int) * preS (mW l) (k + 1) / (mW l).sum := rfl
  have u0 : qK T (mW l).sum (mW l) k = (T : Int) * preS (mW l) k / (mW l).sum := rfl
  rw [← u1, ← u0, ← pl] at d
  have hz : (mW l)[k] = 0 → qK T (mW l).sum (mW l) (k + 1) - qK T (mW l).sum (mW l) k = 0 := by
    intro h
    rw [u1, u0, preS_succ (mW l) k hk, h, Int.add_zero]
    omega
  generalize (mW l)[k] = m at *
  generalize qK T (mW l).sum (mW l) (k + 1) = z1 at *
  generalize qK T (mW l).sum (mW l) k = z0 at *
  generalize (mW l).sum = S at *
  clear e u1 u0 pl hw
  have t1 : (T : Int).tdiv S = (T : Int) / S := Int.tdiv_eq_ediv_of_nonneg (by omega)
  have t2 : (T : Int).tmod S = (T : Int) % S := Int.tmod_eq_emod_of_nonneg (by omega)
  have r0 := Int.emod_nonneg (T : Int) (show S ≠ 0 by omega)
  have r1 := Int.emod_lt_of_pos (T : Int) hS
  have d0 : 0 ≤ (T : Int) / S := Int.ediv_nonneg (by omega) (by omega)
  have d1 : (T : Int) / S ≤ T := Int.ediv_le_of_le_mul hS (by have := Int.mul_le_mul_of_nonneg_left (show 1 ≤ S by omega) (show (0 : Int) ≤ T by omega); omega)
  generalize (T : Int) / S = q at *
  generalize (T : Int) % S = r at *
  have p1 := Int.mul_nonneg d0 hm.1
  have p2 : q * m ≤ 1099511627776 * 1048576 := Int.mul_le_mul (by omega) hm.2 hm.1 (by omega)
  have p3 := Int.mul_nonneg r0 hm.1
  have p4 : r * m ≤ 209715200 * 1048576 := Int.mul_le_mul (by omega) hm.2 hm.1 (by omega)
  have p5 : r * m ≤ S * 1048576 := Int.mul_le_mul (by omega) hm.2 hm.1 (by omega)
  have t3 : (r * m).tdiv S = r * m / S := Int.tdiv_eq_ediv_of_nonneg p3
  have d3 : 0 ≤ r * m / S := Int.ediv_nonneg p3 (by omega)
  have d4 : r * m / S ≤ 1048576 := Int.ediv_le_of_le_mul hS (by rw [Int.mul_comm 1048576 S]; exact p5)
  exact ⟨z1 - z0, q, r, m, S, q * m + r * m / S, rfl, rfl, rfl, hS, by omega, by omega, by omega, hz, hm.1, hm.2, t1, t2, d0, by omega, r0, r1, p1, by omega, p3, by omega, t3, d3, d4, rfl, by omega, by omega, by omega, by omega, by omega⟩
end Go.Proofs.YtbmckddjdkjplaaDoor
