/- Quotients and products of ends, said of integers. -/
import Derived.Test.YtgflgnbbkhikcaaDoorSpPlain
namespace Go.Proofs.YtgflgnbbkhikcaaDoor

/-- a number that fits an int, over 1 -/
theorem dn_one (n : Int) : dn n 1 = n := by simp [dn]
theorem up_one (n : Int) : up n 1 = n := by simp [up, dn_one]
theorem dn_bd2 {n d : Int} (hd : d ≠ 0) (h1 : -72057594037927936 ≤ n) (h2 : n ≤ 72057594037927936) : -72057594037927936 ≤ dn n d ∧ dn n d ≤ 72057594037927936 := by
  have key : ∀ (m e : Int), 0 < e → -72057594037927936 ≤ m → m ≤ 72057594037927936 → -72057594037927936 ≤ dn m e ∧ dn m e ≤ 72057594037927936 := fun m e he h1 h2 => by
    obtain ⟨k1, k2⟩ := dn_bd (n := m) he
    constructor
    · have : -72057594037927936 < dn m e + 1 := by
        apply Int.lt_of_mul_lt_mul_right (a := e) _ (by omega)
        have : -72057594037927936 * e ≤ -72057594037927936 * 1 := by omega
        omega
      omega
    · rcases Int.lt_or_le 72057594037927936 (dn m e) with h | h
      · have := Int.mul_le_mul_of_nonneg_right (Int.add_one_le_of_lt h) (show 0 ≤ e by omega)
        omega
      · exact h
  rcases Int.lt_or_le d 0 with h | h
  · rw [dn_neg _ _ h]; exact key _ _ (by omega) (by omega) (by omega)
  · exact key _ _ (by omega) h1 h2
theorem up_bd2 {n d : Int} (hd : d ≠ 0) (h1 : -72057594037927936 ≤ n) (h2 : n ≤ 72057594037927936) : -72057594037927936 ≤ up n d ∧ up n d ≤ 72057594037927936 := by
  have := dn_bd2 (n := -n) hd (by omega) (by omega)
  unfold up; omega
theorem dn_le_up {n d : Int} (hd : d ≠ 0) : dn n d ≤ up n d := by
  have key : ∀ (m e : Int), 0 < e → dn m e ≤ up m e := fun m e he => by
    obtain ⟨k1, k2⟩ := dn_bd (n := m) he
    obtain ⟨j1, j2⟩ := up_bd (n := m) he
    have : dn m e < up m e + 1 := by
      apply Int.lt_of_mul_lt_mul_right (a := e) _ (by omega)
      rw [Int.add_mul]
      omega
    omega
  rcases Int.lt_or_le d 0 with h | h
  · have e : up n d = up (-n) (-d) := by unfold up; rw [dn_neg _ _ h]
    rw [dn_neg _ _ h, e]; exact key _ _ (by omega)
  · exact key _ _ (by omega)
theorem tdiv_bd {n d : Int} (hd : 0 < d) : -d < n - n.tdiv d * d ∧ n - n.tdiv d * d < d ∧ (0 ≤ n → 0 ≤ n - n.tdiv d * d) ∧ (n ≤ 0 → n - n.tdiv d * d ≤ 0) := by
  have e := Int.mul_tdiv_add_tmod n d
  have h1 := Int.tmod_lt_of_pos n hd
  have h2 := Int.lt_tmod_of_pos n hd
  rw [Int.mul_comm] at e
  refine ⟨by omega, by omega, fun h => ?_, fun h => ?_⟩
  · have := Int.tmod_nonneg d h; omega
  · have := Int.tmod_nonneg (a := -n) d (by omega)
    rw [Int.neg_tmod] at this
    omega
theorem dn_tdiv {n d : Int} (hd : 0 < d) : dn n d = if n < n.tdiv d * d then n.tdiv d - 1 else n.tdiv d := by
  obtain ⟨h1, h2, h3, h4⟩ := tdiv_bd (n := n) hd
  split
  · apply dn_uniq hd
    · rw [Int.sub_mul]; omega
    · rw [show n.tdiv d - 1 + 1 = n.tdiv d by omega]; omega
  · apply dn_uniq hd
    · omega
    · rw [Int.add_mul]; omega
theorem tdiv_abs {n d B : Int} (hd : 0 < d) (h1 : -B ≤ n) (h2 : n ≤ B) : -B ≤ n.tdiv d ∧ n.tdiv d ≤ B ∧ -B ≤ n.tdiv d * d ∧ n.tdiv d * d ≤ B := by
  obtain ⟨k1, k2, k3, k4⟩ := tdiv_bd (n := n) hd
  rcases Int.le_total 0 n with h | h
  · have q0 : 0 ≤ n.tdiv d := Int.tdiv_nonneg h (by omega)
    have := Int.mul_le_mul_of_nonneg_left (show 1 ≤ d by omega) q0
    have := k3 h
    have : 0 ≤ n.tdiv d * d := Int.mul_nonneg q0 (by omega)
    omega
  · have q0 : 0 ≤ (-n).tdiv d := Int.tdiv_nonneg (by omega) (by omega)
    rw [Int.neg_tdiv] at q0
    have a := Int.mul_le_mul_of_nonneg_left (show 1 ≤ d by omega) q0
    have b := k4 h
    have c : 0 ≤ -n.tdiv d * d := Int.mul_nonneg q0 (by omega)
    rw [Int.neg_mul] at c
    simp only [Int.neg_mul, Int.mul_one] at a
    omega
end Go.Proofs.YtgflgnbbkhikcaaDoor
