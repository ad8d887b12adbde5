/- What is true of numbers of spans, said of integers: products, multiples, quotients, roots. -/
import Derived.Test.YtgflgnbbkhikcaaDoorSpUndoP
namespace Go.Proofs.YtgflgnbbkhikcaaDoor

theorem lin_bd {x l h n : Int} (h1 : l ≤ n) (h2 : n ≤ h) : (x * l ≤ x * n ∨ x * h ≤ x * n) ∧ (x * n ≤ x * l ∨ x * n ≤ x * h) := by
  rcases Int.le_total 0 x with hx | hx
  · exact ⟨.inl (Int.mul_le_mul_of_nonneg_left h1 hx), .inr (Int.mul_le_mul_of_nonneg_left h2 hx)⟩
  · exact ⟨.inr (Int.mul_le_mul_of_nonpos_left hx h2), .inl (Int.mul_le_mul_of_nonpos_left hx h1)⟩
theorem mul_in {a b : Sp} {m n : Int} (h1 : a.lo ≤ m) (h2 : m ≤ a.hi) (h3 : b.lo ≤ n) (h4 : n ≤ b.hi) : m4 a b ≤ m * n ∧ m * n ≤ M4 a b := by
  have A := lin_bd (x := n) h1 h2
  have B := lin_bd (x := a.lo) h3 h4
  have C := lin_bd (x := a.hi) h3 h4
  obtain ⟨⟨k1, k2, k3, k4⟩, j1, j2, j3, j4⟩ := m4_le a b
  rw [Int.mul_comm n m, Int.mul_comm n a.lo, Int.mul_comm n a.hi] at A
  omega
theorem dn_bdB {n d B : Int} (hd : d ≠ 0) (hB : 0 ≤ B) (h1 : -B ≤ n) (h2 : n ≤ B) : -B ≤ dn n d ∧ dn n d ≤ B := by
  have key : ∀ (m e : Int), 0 < e → -B ≤ m → m ≤ B → -B ≤ dn m e ∧ dn m e ≤ B := fun m e he h1 h2 => by
    constructor
    · have hb : -B * e ≤ -B := by
        have := Int.mul_le_mul_of_nonneg_left (show 1 ≤ e by omega) hB
        rw [Int.neg_mul]; omega
      obtain ⟨k1, k2⟩ := dn_bd (n := m) he
      have : -B < dn m e + 1 := by
        apply Int.lt_of_mul_lt_mul_right (a := e) _ (by omega)
        omega
      omega
    · have hb : B ≤ B * e := by
        have := Int.mul_le_mul_of_nonneg_left (show 1 ≤ e by omega) hB
        omega
      exact dn_mul_le he (by omega)
  rcases Int.lt_or_le d 0 with h | h
  · rw [dn_neg _ _ h]; exact key _ _ (by omega) (by omega) (by omega)
  · exact key _ _ (by omega) h1 h2
theorem up_bdB {n d B : Int} (hd : d ≠ 0) (hB : 0 ≤ B) (h1 : -B ≤ n) (h2 : n ≤ B) : -B ≤ up n d ∧ up n d ≤ B := by
  have := dn_bdB (n := -n) hd hB (by omega) (by omega)
  unfold up; omega
/-- products of small numbers -/
theorem mul_bdB {x y A B : Int} (hA : 0 ≤ A) (h1 : -A ≤ x) (h2 : x ≤ A) (h3 : -B ≤ y) (h4 : y ≤ B) : -(A * B) ≤ x * y ∧ x * y ≤ A * B := by
  have hB : 0 ≤ B := by omega
  have P := lin_bd (x := x) h3 h4
  have Q := lin_bd (x := B) h1 h2
  have R := Int.mul_nonneg hA hB
  simp only [Int.mul_neg] at P Q
  rw [Int.mul_comm B x, Int.mul_comm B A] at Q
  omega
/-- a multiple -/
def timLo (a : Sp) (k d : Int) : Int := min (dn (a.lo * k) d) (dn (a.hi * k) d)
def timHi (a : Sp) (k d : Int) : Int := max (up (a.lo * k) d) (up (a.hi * k) d)
theorem tim_in {a : Sp} {m k d : Int} (hd : 0 < d) (h1 : a.lo ≤ m) (h2 : m ≤ a.hi) : timLo a k d * d ≤ m * k ∧ m * k ≤ timHi a k d * d := by
  have A := lin_bd (x := k) h1 h2
  rw [Int.mul_comm k m, Int.mul_comm k a.lo, Int.mul_comm k a.hi] at A
  have D1 := dn_bd (n := a.lo * k) hd
  have D2 := dn_bd (n := a.hi * k) hd
  have U1 := up_bd (n := a.lo * k) hd
  have U2 := up_bd (n := a.hi * k) hd
  have L1 := Int.mul_le_mul_of_nonneg_right (show timLo a k d ≤ dn (a.lo * k) d by unfold timLo; omega) (show 0 ≤ d by omega)
  have L2 := Int.mul_le_mul_of_nonneg_right (show timLo a k d ≤ dn (a.hi * k) d by unfold timLo; omega) (show 0 ≤ d by omega)
  have H1 := Int.mul_le_mul_of_nonneg_right (show up (a.lo * k) d ≤ timHi a k d by unfold timHi; omega) (show 0 ≤ d by omega)
  have H2 := Int.mul_le_mul_of_nonneg_right (show up (a.hi * k) d ≤ timHi a k d by unfold timHi; omega) (show 0 ≤ d by omega)
  omega
def qLo (a b : Sp) : Int := min (min (min (dn a.lo b.lo) (dn a.lo b.hi)) (dn a.hi b.lo)) (dn a.hi b.hi)
def qHi (a b : Sp) : Int := max (max (max (up a.lo b.lo) (up a.lo b.hi)) (up a.hi b.lo)) (up a.hi b.hi)
/-- a quotient of numbers of two spans, the divisor above 0 -/
theorem div_in_pos {a b : Sp} {m n : Int} (hb : 0 < b.lo) (h1 : a.lo ≤ m) (h2 : m ≤ a.hi) (h3 : b.lo ≤ n) (h4 : n ≤ b.hi) : qLo a b * n ≤ m ∧ m ≤ qHi a b * n := by
  have D1 := dn_bd (n := a.lo) hb
  have D2 := dn_bd (n := a.lo) (d := b.hi) (by omega)
  have U1 := up_bd (n := a.hi) hb
  have U2 := up_bd (n := a.hi) (d := b.hi) (by omega)
  have L1 := Int.mul_le_mul_of_nonneg_right (show qLo a b ≤ dn a.lo b.lo by unfold qLo; omega) (show 0 ≤ b.lo by omega)
  have L2 := Int.mul_le_mul_of_nonneg_right (show qLo a b ≤ dn a.lo b.hi by unfold qLo; omega) (show 0 ≤ b.hi by omega)
  have H1 := Int.mul_le_mul_of_nonneg_right (show up a.hi b.lo ≤ qHi a b by unfold qHi; omega) (show 0 ≤ b.lo by omega)
  have H2 := Int.mul_le_mul_of_nonneg_right (show up a.hi b.hi ≤ qHi a b by unfold qHi; omega) (show 0 ≤ b.hi by omega)
  have A := lin_bd (x := qLo a b) h3 h4
  have B := lin_bd (x := qHi a b) h3 h4
  omega
theorem q_neg {a b : Sp} (hb : b.hi < 0) (hl : b.lo ≤ b.hi) : qLo a b = qLo ⟨-a.hi, -a.lo⟩ ⟨-b.hi, -b.lo⟩ ∧ qHi a b = qHi ⟨-a.hi, -a.lo⟩ ⟨-b.hi, -b.lo⟩ := by
  have e : ∀ x d : Int, d < 0 → up x d = up (-x) (-d) := fun x d h => by unfold up; rw [dn_neg _ _ h]
  unfold qLo qHi
  rw [dn_neg a.lo b.lo (by omega), dn_neg a.lo b.hi (by omega), dn_neg a.hi b.lo (by omega), dn_neg a.hi b.hi (by omega), e a.lo b.lo (by omega), e a.lo b.hi (by omega), e a.hi b.lo (by omega), e a.hi b.hi (by omega)]
  simp only
  omega
theorem div_in_neg {a b : Sp} {m n : Int} (hb : b.hi < 0) (h1 : a.lo ≤ m) (h2 : m ≤ a.hi) (h3 : b.lo ≤ n) (h4 : n ≤ b.hi) : qLo a b * (-n) ≤ -m ∧ -m ≤ qHi a b * (-n) := by
  rw [(q_neg hb (by omega)).1, (q_neg hb (by omega)).2]
  exact div_in_pos (a := ⟨-a.hi, -a.lo⟩) (b := ⟨-b.hi, -b.lo⟩) (by show 0 < -b.hi; omega) (by show -a.hi ≤ -m; omega) (by show -m ≤ -a.lo; omega) (by show -b.hi ≤ -n; omega) (by show -n ≤ -b.lo; omega)
theorem q_bd {a b : Sp} {B : Int} (hB : 0 ≤ B) (h1 : -B ≤ a.lo) (h2 : a.lo ≤ a.hi) (h3 : a.hi ≤ B) (n1 : b.lo ≠ 0) (n2 : b.hi ≠ 0) : -B ≤ qLo a b ∧ qLo a b ≤ B ∧ -B ≤ qHi a b ∧ qHi a b ≤ B ∧ qLo a b ≤ qHi a b := by
  have D1 := dn_bdB (n := a.lo) n1 hB (by omega) (by omega)
  have D2 := dn_bdB (n := a.lo) n2 hB (by omega) (by omega)
  have D3 := dn_bdB (n := a.hi) n1 hB (by omega) (by omega)
  have D4 := dn_bdB (n := a.hi) n2 hB (by omega) (by omega)
  have U1 := up_bdB (n := a.lo) n1 hB (by omega) (by omega)
  have U2 := up_bdB (n := a.lo) n2 hB (by omega) (by omega)
  have U3 := up_bdB (n := a.hi) n1 hB (by omega) (by omega)
  have U4 := up_bdB (n := a.hi) n2 hB (by omega) (by omega)
  have L := dn_le_up (n := a.lo) n1
  unfold qLo qHi
  omega
theorem isqU_bd {n : Int} (h : 0 ≤ n) (h' : n ≤ 268435456) : 0 ≤ isqU n ∧ isqU n ≤ 16384 ∧ n ≤ isqU n * isqU n ∧ 0 ≤ isq n ∧ isq n ≤ 16384 := by
  obtain ⟨k0, k1, k2⟩ := isq_bd h
  have hq : isq n ≤ 16384 := by
    have : isq n < 16385 := sq_lt k0 (by omega) (by omega)
    omega
  unfold isqU
  split
  · rename_i hl
    have : isq n < 16384 := sq_lt k0 (by omega) (by omega)
    exact ⟨by omega, by omega, by omega, k0, hq⟩
  · exact ⟨k0, hq, by omega, k0, hq⟩
end Go.Proofs.YtgflgnbbkhikcaaDoor
