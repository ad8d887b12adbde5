/- Spans of integers, said of integers: sums, products, quotients rounded down and up, square roots. -/
import Derived.Test.YtgflgnbbkhikcaaDoorOwn
namespace Go.Proofs.YtgflgnbbkhikcaaDoor

structure Sp where
  lo : Int
  hi : Int
abbrev Sp.val (a : Sp) : Value := .agg #[.int .i64 a.lo, .int .i64 a.hi]
def Sp.zero : Sp := ⟨0, 0⟩
def fitB (n : Int) : Bool := decide (-72057594037927936 ≤ n ∧ n ≤ 72057594037927936)
theorem fitB_iff {n : Int} : fitB n = true ↔ -72057594037927936 ≤ n ∧ n ≤ 72057594037927936 := by simp [fitB]
theorem fitB_not {n : Int} : fitB n = false ↔ n < -72057594037927936 ∨ 72057594037927936 < n := by simp [fitB]; omega
def vB (a : Sp) : Bool := decide (a.lo ≤ a.hi) && fitB a.lo && fitB a.hi
theorem vB_iff {a : Sp} : vB a = true ↔ a.lo ≤ a.hi ∧ -72057594037927936 ≤ a.lo ∧ a.hi ≤ 72057594037927936 := by
  simp only [vB, Bool.and_eq_true, decide_eq_true_eq, fitB_iff]; omega
def resE (lo hi : Int) : Int := if fitB lo = true ∧ fitB hi = true then 0 else 5
def resS (lo hi : Int) : Sp := if fitB lo = true ∧ fitB hi = true then ⟨lo, hi⟩ else Sp.zero
/-- a quotient rounded down, for any divisor that is not 0; and up -/
def dn (n d : Int) : Int := if d < 0 then (-n) / (-d) else n / d
def up (n d : Int) : Int := -dn (-n) d
theorem dn_bd {n d : Int} (hd : 0 < d) : dn n d * d ≤ n ∧ n < (dn n d + 1) * d := by
  unfold dn
  rw [if_neg (by omega)]
  have h := Int.mul_ediv_add_emod n d
  have h1 := Int.emod_nonneg n (by omega : d ≠ 0)
  have h2 := Int.emod_lt_of_pos n hd
  have e : (n / d + 1) * d = d * (n / d) + d := by rw [Int.add_mul, Int.mul_comm]; omega
  have e2 : n / d * d = d * (n / d) := Int.mul_comm _ _
  omega
theorem dn_neg (n d : Int) (hd : d < 0) : dn n d = dn (-n) (-d) := by
  unfold dn; rw [if_pos hd, if_neg (by omega)]
theorem dn_uniq {n d q : Int} (hd : 0 < d) (h1 : q * d ≤ n) (h2 : n < (q + 1) * d) : dn n d = q := by
  obtain ⟨k1, k2⟩ := dn_bd (n := n) hd
  have a : dn n d < q + 1 := by
    apply Int.lt_of_mul_lt_mul_right (a := d) _ (by omega)
    omega
  have b : q < dn n d + 1 := by
    apply Int.lt_of_mul_lt_mul_right (a := d) _ (by omega)
    omega
  omega
theorem up_bd {n d : Int} (hd : 0 < d) : n ≤ up n d * d ∧ (up n d - 1) * d < n := by
  obtain ⟨k1, k2⟩ := dn_bd (n := -n) hd
  unfold up
  have e1 : -dn (-n) d * d = -(dn (-n) d * d) := by rw [Int.neg_mul]
  have e2 : (-dn (-n) d - 1) * d = -((dn (-n) d + 1) * d) := by rw [← Int.neg_mul]; congr 1; omega
  omega
/-- the quotient of magnitudes, with a sign -/
theorem dn_mag {m d : Nat} (hd : 0 < d) (s : Int) (hs : s = 1 ∨ s = -1) (t : Int) (ht : t = 1 ∨ t = -1) :
    dn (s * m) (t * d) = if s = t then ((m / d : Nat) : Int) else -(((m / d : Nat) : Int) + if m % d = 0 then 0 else 1) := by
  have h := Nat.div_add_mod m d
  have hlt := Nat.mod_lt m hd
  have hz : (m : Int) = d * (m / d : Nat) + (m % d : Nat) := by
    have : ((d * (m / d) + m % d : Nat) : Int) = m := by rw [h]
    rw [← this]; simp
  generalize (m / d) = q at *
  generalize (m % d) = r at *
  have same : dn (m : Int) (d : Int) = q := by
    apply dn_uniq (by omega)
    · rw [Int.mul_comm]; omega
    · rw [Int.add_mul, Int.mul_comm]; omega
  have opp : dn (-(m : Int)) (d : Int) = -((q : Int) + if r = 0 then 0 else 1) := by
    apply dn_uniq (by omega)
    · by_cases e : r = 0
      · rw [if_pos e, Int.add_zero, Int.neg_mul, Int.mul_comm (q : Int)]; omega
      · rw [if_neg e, Int.neg_mul, Int.add_mul, Int.mul_comm (q : Int)]; omega
    · by_cases e : r = 0
      · rw [if_pos e, Int.add_zero, Int.add_mul, Int.neg_mul, Int.mul_comm (q : Int)]; omega
      · rw [if_neg e, show -((q : Int) + 1) + 1 = -(q : Int) by omega, Int.neg_mul, Int.mul_comm (q : Int)]; omega
  rcases hs with rfl | rfl <;> rcases ht with rfl | rfl
  · simp only [Int.one_mul, if_true]; exact same
  · rw [dn_neg _ _ (by omega), if_neg (by omega)]; simp only [Int.one_mul, Int.neg_mul, Int.neg_neg]; exact opp
  · rw [if_neg (by omega)]; simp only [Int.one_mul, Int.neg_mul]; exact opp
  · rw [dn_neg _ _ (by omega), if_pos rfl]; simp only [Int.one_mul, Int.neg_mul, Int.neg_neg]; exact same
/-- the greatest integer whose square is at most a number -/
def isqN : Nat → Nat
  | 0 => 0
  | n + 1 => if (isqN n + 1) * (isqN n + 1) ≤ n + 1 then isqN n + 1 else isqN n
theorem isqN_bd : ∀ n : Nat, isqN n * isqN n ≤ n ∧ n < (isqN n + 1) * (isqN n + 1)
  | 0 => by simp [isqN]
  | n + 1 => by
    obtain ⟨h1, h2⟩ := isqN_bd n
    unfold isqN
    split
    · rename_i h
      refine ⟨h, ?_⟩
      have : (isqN n + 1 + 1) * (isqN n + 1 + 1) = (isqN n + 1) * (isqN n + 1) + 2 * (isqN n + 1) + 1 := by
        generalize isqN n + 1 = x
        simp only [Nat.add_mul, Nat.mul_add]; omega
      omega
    · exact ⟨by omega, by omega⟩
def isq (n : Int) : Int := isqN n.toNat
theorem isq_bd {n : Int} (h : 0 ≤ n) : 0 ≤ isq n ∧ isq n * isq n ≤ n ∧ n < (isq n + 1) * (isq n + 1) := by
  obtain ⟨h1, h2⟩ := isqN_bd n.toNat
  unfold isq
  refine ⟨by omega, ?_, ?_⟩
  · have : ((isqN n.toNat * isqN n.toNat : Nat) : Int) ≤ n := by omega
    simpa using this
  · have : n < (((isqN n.toNat + 1) * (isqN n.toNat + 1) : Nat) : Int) := by omega
    simpa using this
theorem sq_lt {a b : Int} (ha : 0 ≤ a) (h : a * a < b * b) (hb : 0 ≤ b) : a < b := by
  rcases Int.lt_or_le a b with k | k
  · exact k
  · have := Int.mul_le_mul k k hb ha
    omega
theorem sq_le {a b : Int} (ha : 0 ≤ a) (h : a ≤ b) : a * a ≤ b * b := Int.mul_le_mul h h ha (by omega)
theorem isq_uniq {n r : Int} (h : 0 ≤ n) (h0 : 0 ≤ r) (h1 : r * r ≤ n) (h2 : n < (r + 1) * (r + 1)) : isq n = r := by
  obtain ⟨k0, k1, k2⟩ := isq_bd h
  have a := sq_lt (a := r) (b := isq n + 1) h0 (by omega) (by omega)
  have b := sq_lt (a := isq n) (b := r + 1) k0 (by omega) (by omega)
  omega
theorem isq_mono {n m : Int} (h : 0 ≤ n) (hm : n ≤ m) : isq n ≤ isq m := by
  obtain ⟨k0, k1, k2⟩ := isq_bd h
  obtain ⟨j0, j1, j2⟩ := isq_bd (n := m) (by omega)
  have := sq_lt (a := isq n) (b := isq m + 1) k0 (by omega) (by omega)
  omega
def isqU (n : Int) : Int := if isq n * isq n < n then isq n + 1 else isq n
def negE (a : Sp) : Int := if vB a = true then 0 else 1
def negS (a : Sp) : Sp := if vB a = true then ⟨-a.hi, -a.lo⟩ else Sp.zero
theorem neg_yes {a : Sp} (h : vB a = true) : negE a = 0 ∧ negS a = ⟨-a.hi, -a.lo⟩ := by simp [negE, negS, h]
theorem neg_no {a : Sp} (h : vB a = false) : negE a = 1 ∧ negS a = Sp.zero := by simp [negE, negS, h]
def hullS (a b : Sp) : Sp := ⟨if b.lo < a.lo then b.lo else a.lo, if a.hi < b.hi then b.hi else a.hi⟩
def meetV (a b : Sp) : Sp := ⟨if a.lo < b.lo then b.lo else a.lo, if b.hi < a.hi then b.hi else a.hi⟩
def meetE (a b : Sp) : Int := if (meetV a b).lo ≤ (meetV a b).hi then 0 else 21
def meetS (a b : Sp) : Sp := if (meetV a b).lo ≤ (meetV a b).hi then meetV a b else Sp.zero
end Go.Proofs.YtgflgnbbkhikcaaDoor
