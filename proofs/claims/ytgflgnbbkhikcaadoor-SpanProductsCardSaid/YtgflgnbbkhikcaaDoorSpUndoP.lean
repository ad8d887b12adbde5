/- Products and quotients of spans, said of integers: they do not depend on the order, and what is undone is inside. -/
import Derived.Test.YtgflgnbbkhikcaaDoorSpMul
import Derived.Test.YtgflgnbbkhikcaaDoorSpRDiv
namespace Go.Proofs.YtgflgnbbkhikcaaDoor

def mE (a b : Sp) : Int := s4E ⟨a.lo, b.lo, 1⟩ ⟨a.lo, b.hi, 1⟩ ⟨a.hi, b.lo, 1⟩ ⟨a.hi, b.hi, 1⟩
def mS (a b : Sp) : Sp := s4S ⟨a.lo, b.lo, 1⟩ ⟨a.lo, b.hi, 1⟩ ⟨a.hi, b.lo, 1⟩ ⟨a.hi, b.hi, 1⟩
def p4 (p q r s : Int) : Int := min (min (min p q) r) s
def P4 (p q r s : Int) : Int := max (max (max p q) r) s
def m4 (a b : Sp) : Int := p4 (a.lo * b.lo) (a.lo * b.hi) (a.hi * b.lo) (a.hi * b.hi)
def M4 (a b : Sp) : Int := P4 (a.lo * b.lo) (a.lo * b.hi) (a.hi * b.lo) (a.hi * b.hi)
theorem tr_one (x y : Int) : (Tr.mk x y 1).er = i64E (x * y) ∧ (Tr.mk x y 1).lo = i64V (x * y) ∧ (Tr.mk x y 1).hi = i64V (x * y) := by
  simp only [Tr.er, Tr.lo, Tr.hi, scE, scLo, scHi, dn_one, up_one, i64E, i64V]
  cases i64B (x * y) <;> simp
def gE (p q r s : Int) : Int := if i64B p = true ∧ i64B q = true ∧ i64B r = true ∧ i64B s = true then resE (p4 p q r s) (P4 p q r s) else 5
def gS (p q r s : Int) : Sp := if i64B p = true ∧ i64B q = true ∧ i64B r = true ∧ i64B s = true then resS (p4 p q r s) (P4 p q r s) else ⟨0, 0⟩
theorem i64E_zero {x : Int} : i64E x = 0 ↔ i64B x = true := by unfold i64E; split <;> simp_all
theorem m_g (a b : Sp) : mE a b = gE (a.lo * b.lo) (a.lo * b.hi) (a.hi * b.lo) (a.hi * b.hi) ∧ mS a b = gS (a.lo * b.lo) (a.lo * b.hi) (a.hi * b.lo) (a.hi * b.hi) := by
  have t0 := tr_one a.lo b.lo
  have t1 := tr_one a.lo b.hi
  have t2 := tr_one a.hi b.lo
  have t3 := tr_one a.hi b.hi
  by_cases h : i64B (a.lo * b.lo) = true ∧ i64B (a.lo * b.hi) = true ∧ i64B (a.hi * b.lo) = true ∧ i64B (a.hi * b.hi) = true
  · have k : Ok4 ⟨a.lo, b.lo, 1⟩ ⟨a.lo, b.hi, 1⟩ ⟨a.hi, b.lo, 1⟩ ⟨a.hi, b.hi, 1⟩ := ⟨by rw [t0.1, i64E_zero]; exact h.1, by rw [t1.1, i64E_zero]; exact h.2.1, by rw [t2.1, i64E_zero]; exact h.2.2.1, by rw [t3.1, i64E_zero]; exact h.2.2.2⟩
    unfold mE mS gE gS
    rw [(s4_yes k).1, (s4_yes k).2, if_pos h, if_pos h]
    unfold lo4 hi4 p4 P4
    rw [t0.2.1, t1.2.1, t2.2.1, t3.2.1, t0.2.2, t1.2.2, t2.2.2, t3.2.2, (i64_yes h.1).2, (i64_yes h.2.1).2, (i64_yes h.2.2.1).2, (i64_yes h.2.2.2).2]
    exact ⟨rfl, rfl⟩
  · have k : ¬ Ok4 ⟨a.lo, b.lo, 1⟩ ⟨a.lo, b.hi, 1⟩ ⟨a.hi, b.lo, 1⟩ ⟨a.hi, b.hi, 1⟩ := fun ⟨k0, k1, k2, k3⟩ => h ⟨i64E_zero.1 (t0.1.symm.trans k0), i64E_zero.1 (t1.1.symm.trans k1), i64E_zero.1 (t2.1.symm.trans k2), i64E_zero.1 (t3.1.symm.trans k3)⟩
    unfold mE mS gE gS
    rw [(s4_no k).1, (s4_no k).2, if_neg h, if_neg h]
    exact ⟨rfl, rfl⟩
theorem p4_swap (p q r s : Int) : p4 p q r s = p4 p r q s ∧ P4 p q r s = P4 p r q s := by unfold p4 P4; omega
theorem m_comm (a b : Sp) : mE a b = mE b a ∧ mS a b = mS b a := by
  rw [(m_g a b).1, (m_g a b).2, (m_g b a).1, (m_g b a).2, Int.mul_comm b.lo a.lo, Int.mul_comm b.lo a.hi, Int.mul_comm b.hi a.lo, Int.mul_comm b.hi a.hi]
  generalize a.lo * b.lo = p
  generalize a.lo * b.hi = q
  generalize a.hi * b.lo = r
  generalize a.hi * b.hi = s
  unfold gE gS
  rw [(p4_swap p q r s).1, (p4_swap p q r s).2]
  have e : (i64B p = true ∧ i64B q = true ∧ i64B r = true ∧ i64B s = true) ↔ (i64B p = true ∧ i64B r = true ∧ i64B q = true ∧ i64B s = true) := by
    constructor <;> (rintro ⟨h1, h2, h3, h4⟩; exact ⟨h1, h3, h2, h4⟩)
  by_cases h : i64B p = true ∧ i64B q = true ∧ i64B r = true ∧ i64B s = true
  · rw [if_pos h, if_pos (e.1 h), if_pos h, if_pos (e.1 h)]; exact ⟨rfl, rfl⟩
  · rw [if_neg h, if_neg (fun k => h (e.2 k)), if_neg h, if_neg (fun k => h (e.2 k))]; exact ⟨rfl, rfl⟩
theorem m_cases (a b : Sp) : (mE a b = 0 ∧ mS a b = ⟨m4 a b, M4 a b⟩ ∧ vB ⟨m4 a b, M4 a b⟩ = true) ∨ (mE a b = 5 ∧ mS a b = ⟨0, 0⟩) := by
  rw [(m_g a b).1, (m_g a b).2]
  unfold gE gS
  split
  · have hle : p4 (a.lo * b.lo) (a.lo * b.hi) (a.hi * b.lo) (a.hi * b.hi) ≤ P4 (a.lo * b.lo) (a.lo * b.hi) (a.hi * b.lo) (a.hi * b.hi) := by unfold p4 P4; omega
    rcases res_vB hle with ⟨h1, h2, h3⟩ | ⟨h1, h2, h3⟩
    · exact .inl ⟨h2, h3, h1⟩
    · exact .inr ⟨h2, h3⟩
  · exact .inr ⟨rfl, rfl⟩
theorem m4_le (a b : Sp) : (m4 a b ≤ a.lo * b.lo ∧ m4 a b ≤ a.lo * b.hi ∧ m4 a b ≤ a.hi * b.lo ∧ m4 a b ≤ a.hi * b.hi) ∧ (a.lo * b.lo ≤ M4 a b ∧ a.lo * b.hi ≤ M4 a b ∧ a.hi * b.lo ≤ M4 a b ∧ a.hi * b.hi ≤ M4 a b) := by
  unfold m4 M4 p4 P4; omega
theorem ins_iff {a b : Sp} : insB a b = true ↔ b.lo ≤ a.lo ∧ a.hi ≤ b.hi := by simp [insB]
/-- a product with a sum is inside of the sum of the products -/
theorem m_add (a b c : Sp) : insB ⟨m4 c ⟨a.lo + b.lo, a.hi + b.hi⟩, M4 c ⟨a.lo + b.lo, a.hi + b.hi⟩⟩ ⟨m4 c a + m4 c b, M4 c a + M4 c b⟩ = true := by
  rw [ins_iff]
  obtain ⟨⟨h1, h2, h3, h4⟩, k1, k2, k3, k4⟩ := m4_le c a
  obtain ⟨⟨i1, i2, i3, i4⟩, j1, j2, j3, j4⟩ := m4_le c b
  show m4 c a + m4 c b ≤ m4 c ⟨a.lo + b.lo, a.hi + b.hi⟩ ∧ M4 c ⟨a.lo + b.lo, a.hi + b.hi⟩ ≤ M4 c a + M4 c b
  simp only [show m4 c ⟨a.lo + b.lo, a.hi + b.hi⟩ = p4 (c.lo * (a.lo + b.lo)) (c.lo * (a.hi + b.hi)) (c.hi * (a.lo + b.lo)) (c.hi * (a.hi + b.hi)) from rfl,
    show M4 c ⟨a.lo + b.lo, a.hi + b.hi⟩ = P4 (c.lo * (a.lo + b.lo)) (c.lo * (a.hi + b.hi)) (c.hi * (a.lo + b.lo)) (c.hi * (a.hi + b.hi)) from rfl, Int.mul_add]
  unfold p4 P4
  omega
/-- rounding down and up keep the order, and undo a product -/
theorem dn_mul_le {x y d : Int} (hd : 0 < d) (h : x ≤ y * d) : dn x d ≤ y := by
  obtain ⟨k1, k2⟩ := dn_bd (n := x) hd
  rcases Int.lt_or_le y (dn x d) with k | k
  · have := Int.mul_le_mul_of_nonneg_right (Int.add_one_le_of_lt k) (show 0 ≤ d by omega)
    rw [Int.add_mul] at this
    omega
  · exact k
theorem up_mul_le {x y d : Int} (hd : 0 < d) (h : y * d ≤ x) : y ≤ up x d := by
  have := dn_mul_le (x := -x) (y := -y) hd (by rw [Int.neg_mul]; omega)
  unfold up; omega
theorem dn_neg_le {x y d : Int} (hd : d < 0) (h : y * d ≤ x) : dn x d ≤ y := by
  rw [dn_neg _ _ hd]
  exact dn_mul_le (by omega) (by rw [Int.mul_neg]; omega)
theorem up_neg_le {x y d : Int} (hd : d < 0) (h : x ≤ y * d) : y ≤ up x d := by
  have e : up x d = up (-x) (-d) := by unfold up; rw [dn_neg _ _ hd]
  rw [e]
  exact up_mul_le (by omega) (by rw [Int.mul_neg]; omega)
theorem div_cases {p b : Sp} (hp : vB p = true) (hb : vB b = true) (h : hasB b 0 = false) : (divF p b = 0 ∨ divF p b = 5) ∧ (divF p b = 0 → divV p b = ⟨min (min (min (dn p.lo b.lo) (dn p.lo b.hi)) (dn p.hi b.lo)) (dn p.hi b.hi), max (max (max (up p.lo b.lo) (up p.lo b.hi)) (up p.hi b.lo)) (up p.hi b.hi)⟩) := by
  rw [(div_val hp hb h).1, (div_val hp hb h).2]
  unfold resE resS
  split
  · exact ⟨.inl rfl, fun _ => rfl⟩
  · exact ⟨.inr rfl, fun h => by omega⟩
theorem div_undo {a b : Sp} (hb : vB b = true) (h : hasB b 0 = false) (hp : vB ⟨m4 a b, M4 a b⟩ = true) (h0 : divF ⟨m4 a b, M4 a b⟩ b = 0) : insB a (divV ⟨m4 a b, M4 a b⟩ b) = true := by
  rw [(div_cases hp hb h).2 h0, ins_iff]
  obtain ⟨⟨h1, h2, h3, h4⟩, k1, k2, k3, k4⟩ := m4_le a b
  obtain ⟨c1, c2, c3⟩ := vB_iff.1 hb
  have hz : 0 < b.lo ∨ b.hi < 0 := by
    have : ¬ (b.lo ≤ 0 ∧ 0 ≤ b.hi) := by
      intro h'
      simp [hasB, h'] at h
    omega
  rcases hz with hz | hz
  · have e1 := dn_mul_le (x := m4 a b) (y := a.lo) hz h1
    have e2 := up_mul_le (x := M4 a b) (y := a.hi) hz k3
    simp only
    omega
  · have e1 := dn_neg_le (x := M4 a b) (y := a.lo) (d := b.lo) (by omega) k1
    have e2 := up_neg_le (x := m4 a b) (y := a.hi) (d := b.lo) (by omega) h3
    simp only
    omega
end Go.Proofs.YtgflgnbbkhikcaaDoor
