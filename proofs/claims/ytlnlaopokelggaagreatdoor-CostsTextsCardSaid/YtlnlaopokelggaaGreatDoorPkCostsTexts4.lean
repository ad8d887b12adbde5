/- Parts of one proof, joined: Tables of intensities, said of lists: where a number is in an ascending list, and values on the line through points. math/bits.Div64 where the high word is 0; it leaves memory as it is. Division of two words by one, half by half, said of natural numbers. math/bits.Div64: it returns quotient and rest of two words by one, wherever the high word is below the divisor; it leaves memory as it is. -/
import Derived.Test.YtlnlaopokelggaaGreatDoorPkCostsTexts1
import Derived.Test.YtlnlaopokelggaaGreatDoorPkCostsTexts2
import Derived.Deep.QuietTactic
import Derived.BigQuiet
import Derived.StillTailTactics
import Derived.Deep.RegionHeld3
import Derived.Test.YtlnlaopokelggaaGreatDoorShelf2
namespace Go.Proofs.YtlnlaopokelggaaGreatDoor
open Go.RowKit

/-- numbers that ascend strictly -/
def Asc (l : List Int) : Prop := ∀ i, i + 1 < l.length → l.getD i 0 < l.getD (i + 1) 0
theorem Asc.lt {l : List Int} (h : Asc l) {i : Nat} : ∀ {j : Nat}, i < j → j < l.length → l.getD i 0 < l.getD j 0
  | 0, hij, _ => absurd hij (by omega)
  | j + 1, hij, hj => by
    have s := h j hj
    by_cases e : i = j
    · subst e; exact s
    · have := Asc.lt h (i := i) (j := j) (by omega) (by omega)
      omega
theorem Asc.le {l : List Int} (h : Asc l) {i j : Nat} (hij : i ≤ j) (hj : j < l.length) : l.getD i 0 ≤ l.getD j 0 := by
  by_cases e : i = j
  · subst e; omega
  · have := h.lt (i := i) (j := j) (by omega) hj; omega
theorem Asc.inj {l : List Int} (h : Asc l) {i j : Nat} (hi : i < l.length) (hj : j < l.length) (e : l.getD i 0 = l.getD j 0) : i = j := by
  rcases Nat.lt_trichotomy i j with k | k | k
  · have := h.lt k hj; omega
  · exact k
  · have := h.lt k hi; omega

/-- a place between two neighbours of a list, or at one of its numbers -/
structure Pl where
  lo : Nat
  hi : Nat
  rest : Int
  whole : Int
def IsPl (l : List Int) (x : Int) (p : Pl) : Prop :=
  p.hi < l.length ∧ ((p.hi = p.lo ∧ p.rest = 0 ∧ p.whole = 1 ∧ l.getD p.lo 0 = x) ∨ (p.hi = p.lo + 1 ∧ l.getD p.lo 0 < x ∧ x < l.getD p.hi 0 ∧ p.rest = x - l.getD p.lo 0 ∧ p.whole = l.getD p.hi 0 - l.getD p.lo 0))
def Pl.val (p : Pl) (f : Nat → Int) : Int := (p.whole - p.rest) * f p.lo + p.rest * f p.hi
theorem IsPl.bd {l : List Int} {x : Int} {p : Pl} (h : IsPl l x p) : 0 ≤ p.rest ∧ p.rest < p.whole ∧ p.lo ≤ p.hi ∧ p.lo < l.length ∧ 0 < p.whole ∧ l.getD p.lo 0 ≤ x ∧ x ≤ l.getD p.hi 0 := by
  obtain ⟨h1, ⟨a, b, c, d⟩ | ⟨a, b, c, d, e⟩⟩ := h
  · rw [a]; omega
  · omega
theorem IsPl.unique {l : List Int} (ha : Asc l) {x : Int} {p q : Pl} (h : IsPl l x p) (k : IsPl l x q) : p = q := by
  have b := h.bd
  have b' := k.bd
  obtain ⟨h1, h2⟩ := h
  obtain ⟨k1, k2⟩ := k
  have elo : p.lo = q.lo := by
    rcases Nat.lt_trichotomy p.lo q.lo with s | s | s
    · exfalso
      have t := ha.lt s b'.2.2.2.1
      rcases h2 with ⟨a, _, _, d⟩ | ⟨a, _, c, _⟩
      · omega
      · have := ha.le (i := p.hi) (j := q.lo) (by omega) b'.2.2.2.1
        omega
    · exact s
    · exfalso
      have t := ha.lt s b.2.2.2.1
      rcases k2 with ⟨a, _, _, d⟩ | ⟨a, _, c, _⟩
      · omega
      · have := ha.le (i := q.hi) (j := p.lo) (by omega) b.2.2.2.1
        omega
  cases p; cases q
  simp only at elo
  subst elo
  simp only [Pl.mk.injEq, true_and] at *
  rcases h2 with ⟨a, b1, c, d⟩ | ⟨a, b1, c, d, e⟩ <;> rcases k2 with ⟨a', b1', c', d'⟩ | ⟨a', b1', c', d', e'⟩
  · omega
  · omega
  · omega
  · subst a a'
    omega
/-- how many numbers are at most x -/
def cnt (l : List Int) (x : Int) : Nat := (l.takeWhile fun a => decide (a ≤ x)).length
theorem cnt_le (l : List Int) (x : Int) : cnt l x ≤ l.length := (List.takeWhile_sublist _).length_le
theorem cnt_lt : ∀ (l : List Int) (x : Int) (i : Nat), i < cnt l x → l.getD i 0 ≤ x
  | [], _, i, h => by simp [cnt] at h
  | a :: l, x, i, h => by
    unfold cnt at h
    rw [List.takeWhile_cons] at h
    split at h
    · rename_i hx
      have hx' : a ≤ x := by simpa using hx
      cases i with
      | zero => simpa using hx'
      | succ i => simpa using cnt_lt l x i (by simpa [cnt] using h)
    · simp at h
theorem cnt_ge : ∀ (l : List Int) (x : Int), cnt l x < l.length → x < l.getD (cnt l x) 0
  | [], _, h => by simp at h
  | a :: l, x, h => by
    by_cases hx : a ≤ x
    · have e : cnt (a :: l) x = cnt l x + 1 := by simp [cnt, hx]
      rw [e] at h ⊢
      simpa using cnt_ge l x (by simpa using h)
    · have e : cnt (a :: l) x = 0 := by simp [cnt, hx]
      rw [e]; simp; omega
/-- the place of a number that is within a list -/
def plc (l : List Int) (x : Int) : Pl :=
  if l.getD (cnt l x - 1) 0 = x then ⟨cnt l x - 1, cnt l x - 1, 0, 1⟩ else ⟨cnt l x - 1, cnt l x, x - l.getD (cnt l x - 1) 0, l.getD (cnt l x) 0 - l.getD (cnt l x - 1) 0⟩
def inL (l : List Int) (x : Int) : Bool := decide (l.getD 0 0 ≤ x ∧ x ≤ l.getD (l.length - 1) 0)
theorem inL_iff {l : List Int} {x : Int} : inL l x = true ↔ l.getD 0 0 ≤ x ∧ x ≤ l.getD (l.length - 1) 0 := by simp [inL]
theorem plc_is {l : List Int} (_ha : Asc l) {x : Int} (hn : 1 ≤ l.length) (h1 : l.getD 0 0 ≤ x) (h2 : x ≤ l.getD (l.length - 1) 0) : IsPl l x (plc l x) := by
  have c0 : 1 ≤ cnt l x := by
    rcases Nat.eq_zero_or_pos (cnt l x) with e | e
    · have := cnt_ge l x (by omega)
      rw [e] at this; omega
    · exact e
  have c1 := cnt_le l x
  have lo := cnt_lt l x (cnt l x - 1) (by omega)
  unfold plc
  split
  · rename_i e
    exact ⟨by simp only; omega, .inl ⟨rfl, rfl, rfl, e⟩⟩
  · rename_i e
    have c2 : cnt l x < l.length := by
      rcases Nat.lt_or_ge (cnt l x) l.length with k | k
      · exact k
      · have : cnt l x - 1 = l.length - 1 := by omega
        rw [this] at lo e; omega
    have hi := cnt_ge l x c2
    exact ⟨c2, .inr ⟨by simp only; omega, by simp only; omega, hi, rfl, rfl⟩⟩
theorem plc_eq {l : List Int} (ha : Asc l) {x : Int} (hn : 1 ≤ l.length) {p : Pl} (h : IsPl l x p) : p = plc l x := by
  have b := h.bd
  refine h.unique ha (plc_is ha hn ?_ ?_)
  · have := ha.le (i := 0) (j := p.lo) (Nat.zero_le _) b.2.2.2.1; omega
  · have := ha.le (i := p.hi) (j := l.length - 1) (by have := h.1; omega) (by omega); omega
theorem plc_at {l : List Int} (ha : Asc l) {i : Nat} (hi : i < l.length) : plc l (l.getD i 0) = ⟨i, i, 0, 1⟩  := by
  have h : IsPl l (l.getD i 0) (⟨i, i, 0, 1⟩ : Pl) := ⟨hi, Or.inl ⟨Eq.refl i, Eq.refl 0, Eq.refl 1, Eq.refl _⟩⟩
  exact (plc_eq ha (by omega) h).symm

/-- values that do not descend -/
def Mon (n : Nat) (f : Nat → Int) : Prop := ∀ i j, i ≤ j → j < n → f i ≤ f j
theorem Mon.of_step {n : Nat} {f : Nat → Int} (h : ∀ i, i + 1 < n → f i ≤ f (i + 1)) : Mon n f := by
  intro i j
  induction j with
  | zero => intro h1 _; have : i = 0 := by omega
            subst this; exact Int.le_refl _
  | succ j ih =>
    intro h1 h2
    by_cases e : i = j + 1
    · subst e; exact Int.le_refl _
    · have := ih (by omega) (by omega)
      have := h j h2
      omega
theorem lin0 (w r a b : Int) : (w - r) * a + r * b = w * a + r * (b - a) := by grind
theorem lin1 (w r a b : Int) : (w - r) * a + r * b = w * b - (w - r) * (b - a) := by grind
theorem val_bd {l : List Int} {x : Int} {p : Pl} (h : IsPl l x p) {f : Nat → Int} (hm : Mon l.length f) : f p.lo * p.whole ≤ p.val f ∧ p.val f ≤ f p.hi * p.whole := by
  have b := h.bd
  have hf := hm p.lo p.hi b.2.2.1 h.1
  have e0 : p.val f = p.whole * f p.lo + p.rest * (f p.hi - f p.lo) := lin0 ..
  have e1 : p.val f = p.whole * f p.hi - (p.whole - p.rest) * (f p.hi - f p.lo) := lin1 ..
  have m0 : 0 ≤ p.rest * (f p.hi - f p.lo) := Int.mul_nonneg b.1 (by omega)
  have m1 : 0 ≤ (p.whole - p.rest) * (f p.hi - f p.lo) := Int.mul_nonneg (by omega) (by omega)
  constructor
  · rw [e0, Int.mul_comm]; omega
  · rw [e1, Int.mul_comm]; omega
/-- the values on the line through the points do not descend -/
theorem val_mono {l : List Int} (ha : Asc l) {x y : Int} {p q : Pl} (h : IsPl l x p) (k : IsPl l y q) {f : Nat → Int} (hm : Mon l.length f) (hxy : x ≤ y) : p.val f * q.whole ≤ q.val f * p.whole := by
  have b := h.bd
  have b' := k.bd
  by_cases c : p.hi ≤ q.lo
  · have v1 := (val_bd h hm).2
    have v2 := (val_bd k hm).1
    have f1 := hm p.hi q.lo c b'.2.2.2.1
    have s1 : p.val f * q.whole ≤ f p.hi * p.whole * q.whole := Int.mul_le_mul_of_nonneg_right v1 (by omega)
    have s2 : f p.hi * p.whole * q.whole ≤ f q.lo * p.whole * q.whole := Int.mul_le_mul_of_nonneg_right (Int.mul_le_mul_of_nonneg_right f1 (by omega)) (by omega)
    have s3 : f q.lo * q.whole * p.whole ≤ q.val f * p.whole := Int.mul_le_mul_of_nonneg_right v2 (by omega)
    have s4 : f q.lo * p.whole * q.whole = f q.lo * q.whole * p.whole := by grind
    omega
  · obtain ⟨h1, h2⟩ := h
    obtain ⟨k1, k2⟩ := k
    have e : p.lo = q.lo ∧ p.hi = q.hi ∧ p.whole = q.whole ∧ p.rest ≤ q.rest := by
      rcases h2 with ⟨a, r, w, d⟩ | ⟨a, d, e, r, w⟩
      · exfalso
        have := ha.lt (i := q.lo) (j := p.lo) (by omega) b.2.2.2.1
        rcases k2 with ⟨a', _, _, d'⟩ | ⟨a', _, d', _⟩
        · omega
        · have := ha.le (i := q.hi) (j := p.lo) (by omega) b.2.2.2.1
          omega
      · by_cases s : p.lo = q.lo
        · rcases k2 with ⟨a', r', w', d'⟩ | ⟨a', d', e', r', w'⟩
          · rw [s] at d; omega
          · have t : p.hi = q.hi := by omega
            rw [s, t] at w; rw [s] at r
            omega
        · exfalso
          have := ha.lt (i := q.lo) (j := p.lo) (by omega) b.2.2.2.1
          rcases k2 with ⟨a', _, _, d'⟩ | ⟨a', _, d', _⟩
          · omega
          · have := ha.le (i := q.hi) (j := p.lo) (by omega) b.2.2.2.1
            omega
    obtain ⟨e1, e2, e3, e4⟩ := e
    have hf := hm p.lo p.hi b.2.2.1 h1
    rw [e3]
    refine Int.mul_le_mul_of_nonneg_right ?_ (by omega)
    unfold Pl.val
    rw [← e1, ← e2, ← e3]
    have m0 : 0 ≤ (q.rest - p.rest) * (f p.hi - f p.lo) := Int.mul_nonneg (by omega) (by omega)
    have m1 : (p.whole - q.rest) * f p.lo + q.rest * f p.hi - ((p.whole - p.rest) * f p.lo + p.rest * f p.hi) = (q.rest - p.rest) * (f p.hi - f p.lo) := by grind
    omega
theorem val_le {p : Pl} {f g : Nat → Int} (h0 : 0 ≤ p.rest) (h1 : p.rest ≤ p.whole) (hl : f p.lo ≤ g p.lo) (hh : f p.hi ≤ g p.hi) : p.val f ≤ p.val g := by
  unfold Pl.val
  have a := Int.mul_le_mul_of_nonneg_left hl (show 0 ≤ p.whole - p.rest by omega)
  have b := Int.mul_le_mul_of_nonneg_left hh h0
  omega
theorem val_mul (p : Pl) (f : Nat → Int) (c : Int) : p.val (fun i => f i * c) = p.val f * c := by unfold Pl.val; grind
theorem val_comm (p q : Pl) (f : Nat → Nat → Int) : p.val (fun j => q.val (f j)) = q.val (fun i => p.val (fun j => f j i)) := by unfold Pl.val; grind

/-- quotients, rounded up -/
def cdiv (n d : Int) : Int := (n + d - 1) / d
theorem fdiv_le {n d m e : Int} (hd : 0 < d) (he : 0 < e) (h : n * e ≤ m * d) : n / d ≤ m / e := by
  rw [Int.le_ediv_iff_mul_le he]
  have a : n / d * d ≤ n := Int.ediv_mul_le n (by omega)
  have b : n / d * d * e ≤ n * e := Int.mul_le_mul_of_nonneg_right a (by omega)
  have c : n / d * e * d ≤ m * d := by have : n / d * e * d = n / d * d * e := by grind
                                       omega
  exact Int.le_of_mul_le_mul_right c hd
theorem cdiv_iff {n d q : Int} (hd : 0 < d) : cdiv n d ≤ q ↔ n ≤ q * d := by
  unfold cdiv
  constructor
  · intro h
    have a : (n + d - 1) < ((n + d - 1) / d + 1) * d := Int.lt_ediv_add_one_mul_self _ hd
    have b : ((n + d - 1) / d + 1) * d ≤ (q + 1) * d := Int.mul_le_mul_of_nonneg_right (by omega) (by omega)
    have c : (q + 1) * d = q * d + d := by grind
    omega
  · intro h
    have : (n + d - 1) / d < q + 1 := by
      rw [Int.ediv_lt_iff_lt_mul hd]
      have c : (q + 1) * d = q * d + d := by grind
      omega
    omega
theorem cdiv_le {n d m e : Int} (hd : 0 < d) (he : 0 < e) (h : n * e ≤ m * d) : cdiv n d ≤ cdiv m e := by
  rw [cdiv_iff hd]
  have a : m ≤ cdiv m e * e := (cdiv_iff he).1 (Int.le_refl _)
  have b : m * d ≤ cdiv m e * e * d := Int.mul_le_mul_of_nonneg_right a (by omega)
  have c : n * e ≤ cdiv m e * d * e := by have : cdiv m e * d * e = cdiv m e * e * d := by grind
                                          omega
  exact Int.le_of_mul_le_mul_right c he
theorem fc_le {n d : Int} (hd : 0 < d) : n / d ≤ cdiv n d ∧ cdiv n d ≤ n / d + 1 := by
  constructor
  · exact Int.ediv_le_ediv hd (by omega)
  · rw [cdiv_iff hd]
    have a : n < (n / d + 1) * d := Int.lt_ediv_add_one_mul_self _ hd
    omega
/-- both quotients are a number just where it is exact -/
theorem fc_eq {n d q : Int} (hd : 0 < d) : (n / d = q ∧ cdiv n d = q) ↔ n = q * d := by
  constructor
  · rintro ⟨h1, h2⟩
    have a := (cdiv_iff (n := n) hd (q := q)).1 (by omega)
    have b := (Int.le_ediv_iff_mul_le (a := q) (b := n) hd).1 (by omega)
    omega
  · rintro rfl
    refine ⟨Int.mul_ediv_cancel _ (by omega), ?_⟩
    have a := (cdiv_iff (n := q * d) hd (q := q)).2 (Int.le_refl _)
    have b := (fc_le (n := q * d) hd).1
    rw [Int.mul_ediv_cancel _ (by omega)] at b
    omega
end Go.Proofs.YtlnlaopokelggaaGreatDoor

namespace Go.Proofs.YtlnlaopokelggaaGreatDoor
open Go.RowKit

theorem ret2_int {k k' : IntKind} {a b c d : Int} (h : a = b) (h' : c = d) : Ending.returned (.tuple #[.int k a, .int k' c]) = .returned (.tuple #[.int k b, .int k' d]) := by rw [h, h']
/-- Div64 where the high word is 0 -/
theorem div64_low (l y : Nat) (hl : l < 18446744073709551616) (hy : 0 < y) (hy' : y < 18446744073709551616) (w : World) :
    Calls Tryz.prog 82 #[.int .u64 0, .int .u64 l, .int .u64 y] w fun e w' => e = .returned (.tuple #[.int .u64 ((l / y : Nat) : Int), .int .u64 ((l % y : Nat) : Int)]) ∧ ∃ n, w' = w.drewN n := by
  have g1 : (0 : Int) < (y : Int) := by omega
  have g2 : (y : Int) ≠ 0 := by omega
  have g3 : ((y : Int) == 0) = false := by simp; omega
  go_enter Tryz.func82, Tryz.ntmps82
  go_wp2
  go_quiet (fail)
  go_wp2
  go_ret2
  refine ⟨ret2_int ?_ (by simp), _, rfl⟩
  have hd : l / y ≤ l := Nat.div_le_self _ _
  have e : (l : Int) / (y : Int) = ((l / y : Nat) : Int) := by simp
  rw [e, IntKind.wrap_u64]
  generalize l / y = k at *
  omega
end Go.Proofs.YtlnlaopokelggaaGreatDoor

namespace Go.Proofs.YtlnlaopokelggaaGreatDoor.D64
/-- one half step of the division: q estimates N / y, with y = a * 2^32 + b -/
theorem cond_iff {q a b r u n : Nat} (h : q * a + r = u) : (q * b > 4294967296 * r + n) ↔ u * 4294967296 + n < q * (a * 4294967296 + b) := by
  have e : q * (a * 4294967296 + b) = q * a * 4294967296 + q * b := by rw [Nat.mul_add, Nat.mul_assoc]
  rw [e]
  generalize q * a = p at *
  generalize q * b = s at *
  omega
theorem gt_iff {q y N : Nat} (hy : 0 < y) : N / y < q ↔ N < q * y := Nat.div_lt_iff_lt_mul hy
/-- the estimate at the beginning -/
theorem start {u a b : Nat} (ha : 2147483648 ≤ a) (hb : b < 4294967296) (hu : u < a * 4294967296 + b) : u / a * a + u % a = u ∧ u / a ≤ 4294967297 ∧ u % a < a := by
  refine ⟨by rw [Nat.mul_comm]; exact Nat.div_add_mod u a, ?_, Nat.mod_lt _ (by omega)⟩
  have : u / a < 4294967298 := by
    rw [Nat.div_lt_iff_lt_mul (by omega)]
    omega
  omega
theorem start_ge {u a b n : Nat} (ha : 0 < a) (hn : n < 4294967296) : (u * 4294967296 + n) / (a * 4294967296 + b) ≤ u / a := by
  rw [← Nat.lt_add_one_iff, Nat.div_lt_iff_lt_mul (by omega)]
  have h := Nat.div_add_mod u a
  have h2 := Nat.mod_lt u ha
  have e : (u / a + 1) * (a * 4294967296 + b) = (a * (u / a) + a) * 4294967296 + (u / a + 1) * b := by
    rw [Nat.mul_add, ← Nat.mul_assoc, Nat.add_mul (u / a) 1 a, Nat.one_mul, Nat.mul_comm (u / a) a]
  rw [e]
  generalize a * (u / a) = p at *
  generalize (u / a + 1) * b = s at *
  omega
theorem quo_small {u y n : Nat} (hu : u < y) (hn : n < 4294967296) : (u * 4294967296 + n) / y < 4294967296 := by
  rw [Nat.div_lt_iff_lt_mul (by omega)]
  have : (u + 1) * 4294967296 ≤ y * 4294967296 := Nat.mul_le_mul_right _ hu
  omega
/-- what holds at the head of the loop -/
def Rel (u a b n q r : Nat) : Prop := q * a + r = u ∧ (u * 4294967296 + n) / (a * 4294967296 + b) ≤ q ∧ q ≤ 4294967297 ∧ r < 4294967296
theorem Rel.bounds {u a b n q r : Nat} (h : Rel u a b n q r) (hb : b < 4294967296) (hn : n < 4294967296) : q * b ≤ 18446744073709551615 ∧ 4294967296 * r + n ≤ 18446744073709551615 := by
  obtain ⟨_, _, h3, h4⟩ := h
  have := Nat.mul_le_mul h3 (show b ≤ 4294967295 by omega)
  omega
/-- the loop ends: the estimate is the quotient -/
theorem Rel.done {u a b n q r : Nat} (h : Rel u a b n q r) (hy : 0 < a * 4294967296 + b) (hc : ¬ 4294967296 * r + n < q * b) : q = (u * 4294967296 + n) / (a * 4294967296 + b) := by
  obtain ⟨h1, h2, _, _⟩ := h
  have := (cond_iff (b := b) (n := n) h1)
  have k : ¬ (u * 4294967296 + n) / (a * 4294967296 + b) < q := by
    rw [gt_iff hy, ← this]; exact hc
  omega
/-- one step down -/
theorem Rel.down {u a b n q r : Nat} (h : Rel u a b n q r) (hy : 0 < a * 4294967296 + b) (hu : u < a * 4294967296 + b) (hn : n < 4294967296) (ha : a < 4294967296) (hb : b < 4294967296) (hc : 4294967296 ≤ q ∨ 4294967296 * r + n < q * b) :
    1 ≤ q ∧ r + a < 8589934592 ∧ (r + a < 4294967296 → Rel u a b n (q - 1) (r + a)) ∧ (4294967296 ≤ r + a → q - 1 = (u * 4294967296 + n) / (a * 4294967296 + b)) := by
  obtain ⟨h1, h2, h3, h4⟩ := h
  have gt : (u * 4294967296 + n) / (a * 4294967296 + b) < q := by
    rcases hc with hc | hc
    · have := quo_small hu hn; omega
    · rw [gt_iff hy, ← cond_iff h1]; exact hc
  generalize hQ : (u * 4294967296 + n) / (a * 4294967296 + b) = Q at gt h2 ⊢
  obtain ⟨p, rfl⟩ : ∃ p, q = p + 1 := ⟨q - 1, by omega⟩
  have h5 : p * a + (r + a) = u := by rw [Nat.add_mul, Nat.one_mul] at h1; omega
  refine ⟨by omega, by omega, fun hr => ⟨by simpa using h5, by simp only [Nat.add_sub_cancel]; rw [hQ]; exact Nat.lt_succ_iff.1 gt, by simp only [Nat.add_sub_cancel]; omega, hr⟩, fun hr => ?_⟩
  have k : ¬ Q < p := by
    rw [← hQ, gt_iff hy, ← cond_iff h5]
    have := Nat.mul_le_mul (show p ≤ 4294967296 by omega) (show b ≤ 4294967295 by omega)
    omega
  simp only [Nat.add_sub_cancel]
  omega
/-- what is left, reckoned in a word -/
theorem rest_word {u y n q : Nat} (hy : 0 < y) (hy' : y < 18446744073709551616) (hq : q = (u * 4294967296 + n) / y) : ((u * 4294967296 + n : Nat) - (q * y : Nat) : Int) % 18446744073709551616 = (((u * 4294967296 + n) % y : Nat) : Int) := by
  have h := Nat.div_add_mod (u * 4294967296 + n) y
  have h2 := Nat.mod_lt (u * 4294967296 + n) hy
  have e : q * y = y * ((u * 4294967296 + n) / y) := by rw [hq, Nat.mul_comm]
  rw [e]
  generalize y * ((u * 4294967296 + n) / y) = p at *
  generalize (u * 4294967296 + n) % y = r at *
  rw [← h]
  have e2 : (((p + r : Nat) : Int) - (p : Nat)) = (r : Int) := by omega
  rw [e2, Int.emod_eq_of_lt (by omega) (by omega)]
/-- two half steps make the whole one -/
theorem two_steps {N n y : Nat} (hy : 0 < y) : (N * 4294967296 + n) / y = N / y * 4294967296 + (N % y * 4294967296 + n) / y ∧
    (N * 4294967296 + n) % y = (N % y * 4294967296 + n) % y := by
  have h := Nat.div_add_mod N y
  have e : N * 4294967296 + n = N / y * 4294967296 * y + (N % y * 4294967296 + n) := by
    have : N / y * 4294967296 * y = y * (N / y) * 4294967296 := by rw [Nat.mul_right_comm, Nat.mul_comm (N / y) y]
    rw [this]
    generalize y * (N / y) = p at *
    omega
  constructor
  · rw [e, Nat.mul_comm _ y, Nat.mul_add_div hy]
  · rw [e, Nat.mul_comm _ y, Nat.mul_add_mod]
theorem shift_div {v y p : Nat} (hp : 0 < p) : v * p / (y * p) = v / y ∧ v * p % (y * p) / p = v % y := by
  refine ⟨Nat.mul_div_mul_right v y hp, ?_⟩
  rw [Nat.mul_mod_mul_right, Nat.mul_div_cancel _ hp]
/-- the shift that brings the divisor's first bit to the top -/
theorem shift_parts {h l y c : Nat} (hc1 : 1 ≤ c) (hc2 : c ≤ 64) (b1 : 2 ^ (c - 1) ≤ y) (b2 : y < 2 ^ c) (hh : h < y) (hl : l < 18446744073709551616) :
    9223372036854775808 ≤ y * 2 ^ (64 - c) ∧ y * 2 ^ (64 - c) < 18446744073709551616 ∧ h * 2 ^ (64 - c) < 18446744073709551616 ∧ (h * 2 ^ (64 - c) ||| l / 2 ^ c) = h * 2 ^ (64 - c) + l / 2 ^ c ∧
    (h * 2 ^ (64 - c) + l / 2 ^ c) * 18446744073709551616 + l * 2 ^ (64 - c) % 18446744073709551616 = (h * 18446744073709551616 + l) * 2 ^ (64 - c) ∧
    h * 2 ^ (64 - c) + l / 2 ^ c < y * 2 ^ (64 - c) := by
  have e1 : 2 ^ (c - 1) * 2 ^ (64 - c) = 9223372036854775808 := by
    rw [← Nat.pow_add, show c - 1 + (64 - c) = 63 by omega]
  have e2 : 2 ^ c * 2 ^ (64 - c) = 18446744073709551616 := by
    rw [← Nat.pow_add, show c + (64 - c) = 64 by omega]
  have hP : 0 < 2 ^ (64 - c) := Nat.two_pow_pos _
  have hC : 0 < 2 ^ c := Nat.two_pow_pos _
  have g1 : 9223372036854775808 ≤ y * 2 ^ (64 - c) := by rw [← e1]; exact Nat.mul_le_mul_right _ b1
  have g2 : y * 2 ^ (64 - c) < 18446744073709551616 := by rw [← e2]; exact Nat.mul_lt_mul_of_pos_right b2 hP
  have g3 : h * 2 ^ (64 - c) < y * 2 ^ (64 - c) := Nat.mul_lt_mul_of_pos_right hh hP
  have g4 : l / 2 ^ c < 2 ^ (64 - c) := by
    rw [Nat.div_lt_iff_lt_mul hC, Nat.mul_comm, e2]; exact hl
  have g5 : (h * 2 ^ (64 - c) ||| l / 2 ^ c) = h * 2 ^ (64 - c) + l / 2 ^ c := by
    have := Nat.two_pow_add_eq_or_of_lt (i := 64 - c) (b := l / 2 ^ c) g4 h
    rw [Nat.mul_comm (2 ^ (64 - c)) h] at this
    exact this.symm
  have g6 : l * 2 ^ (64 - c) / 18446744073709551616 = l / 2 ^ c := by
    rw [← e2]; exact Nat.mul_div_mul_right l (2 ^ c) hP
  have g7 := Nat.div_add_mod (l * 2 ^ (64 - c)) 18446744073709551616
  rw [g6] at g7
  have g8 : (h * 2 ^ (64 - c) + l / 2 ^ c) * 18446744073709551616 + l * 2 ^ (64 - c) % 18446744073709551616 = (h * 18446744073709551616 + l) * 2 ^ (64 - c) := by
    rw [Nat.add_mul (h * 18446744073709551616) l, Nat.mul_right_comm h 18446744073709551616]
    generalize h * 2 ^ (64 - c) = x at *
    generalize l / 2 ^ c = z at *
    generalize l * 2 ^ (64 - c) = t at *
    omega
  refine ⟨g1, g2, by omega, g5, g8, ?_⟩
  have g9 : (h * 18446744073709551616 + l) * 2 ^ (64 - c) < y * 2 ^ (64 - c) * 18446744073709551616 := by
    have : h * 18446744073709551616 + l < y * 18446744073709551616 := by
      have := Nat.mul_le_mul_right 18446744073709551616 hh
      omega
    have := Nat.mul_lt_mul_of_pos_right this hP
    rw [Nat.mul_right_comm y 18446744073709551616] at this
    exact this
  rw [← g8] at g9
  generalize h * 2 ^ (64 - c) + l / 2 ^ c = x at *
  generalize y * 2 ^ (64 - c) = z at *
  omega
end Go.Proofs.YtlnlaopokelggaaGreatDoor.D64

namespace Go.Proofs.YtlnlaopokelggaaGreatDoor
open Go.RowKit

theorem bitLen_bd : ∀ (k x : Nat), x < 2 ^ k → k ≤ 64 → 0 < x → 1 ≤ Lib.bitLen x ∧ 2 ^ (Lib.bitLen x - 1) ≤ x ∧ x < 2 ^ Lib.bitLen x
  | 0, x, h, _, h0 => by simp at h; omega
  | k + 1, x, h, hk, h0 => by
    have h64 : x < 2 ^ 64 := Nat.lt_of_lt_of_le h (Nat.pow_le_pow_right (by omega) hk)
    rw [Lib.bitLen_half x (by omega) h64]
    rcases Nat.eq_zero_or_pos (x / 2) with h1 | h1
    · have : x = 1 := by omega
      subst this
      decide
    · have hs : x / 2 < 2 ^ k := by rw [Nat.pow_succ] at h; omega
      obtain ⟨i1, i2, i3⟩ := bitLen_bd k (x / 2) hs (by omega) h1
      generalize Lib.bitLen (x / 2) = n at *
      obtain ⟨m, rfl⟩ : ∃ m, n = m + 1 := ⟨n - 1, by omega⟩
      have e1 : 2 ^ (1 + (m + 1) - 1) = 2 ^ m * 2 := by rw [show 1 + (m + 1) - 1 = m + 1 by omega, Nat.pow_succ]
      have e2 : 2 ^ (1 + (m + 1)) = 2 ^ (m + 1) * 2 := by rw [Nat.add_comm, Nat.pow_succ]
      simp only [Nat.add_sub_cancel] at i2
      refine ⟨by omega, ?_, ?_⟩
      · rw [e1]; omega
      · rw [e2]; omega
set_option maxRecDepth 100000 in
set_option maxHeartbeats 16000000 in
theorem div64_core (h l y s s' Y a b H L u V m n q0 p0 r0 k1 k2 k3 v q2 p2 r2 z1 z2 j1 j2 j3 j4 rem Q Q2 : Nat) (g5 : decide (y ≤ h) = false) (g3 : ((y : Int) == 0) = false) (g4 : ((h : Int) == 0) = false) (w : World)
    (LZ : Calls Tryz.prog 112 #[.int .u64 (y : Int)] w fun e w' => e = .returned (.int .i64 (s : Int)) ∧ w' = w)
    (s1 : s < 64) (E1 : IntKind.u64.wrap (s : Int) = (s : Int)) (E2 : min s 64 = s) (E3 : IntKind.u64.wrap ((y : Int) * 2 ^ s) = (Y : Int)) (E4 : (Y : Int) / 4294967296 = (a : Int)) (E5 : bits .and .u64 (Y : Int) 4294967295 = (b : Int))
    (E6 : IntKind.u64.wrap ((h : Int) * 2 ^ s) = (H : Int)) (E7 : IntKind.u64.wrap (64 - (s : Int)) = (s' : Int)) (E8 : min s' 64 = s') (E9 : (l : Int) / 2 ^ s' = (L : Int)) (E10 : bits .or .u64 (H : Int) (L : Int) = (u : Int))
    (E11 : IntKind.u64.wrap ((l : Int) * 2 ^ s) = (V : Int)) (E12 : (V : Int) / 4294967296 = (m : Int)) (E13 : bits .and .u64 (V : Int) 4294967295 = (n : Int))
    (a1 : 2147483648 ≤ a) (a2 : a < 4294967296) (b2 : b < 4294967296) (m2 : m < 4294967296) (n2 : n < 4294967296)
    (E14 : (u : Int) / (a : Int) = (q0 : Int)) (E14' : IntKind.u64.wrap (q0 : Int) = (q0 : Int)) (E15 : IntKind.u64.wrap ((q0 : Int) * (a : Int)) = (p0 : Int)) (E16 : IntKind.u64.wrap ((u : Int) - (p0 : Int)) = (r0 : Int))
    (R1 : D64.Rel u a b m q0 r0) (uY : Hid (u < a * 4294967296 + b)) (HQ : Hid (Q = (u * 4294967296 + m) / (a * 4294967296 + b)))
    (F1 : IntKind.u64.wrap ((u : Int) * 4294967296) = (k1 : Int)) (F2 : IntKind.u64.wrap ((k1 : Int) + (m : Int)) = (k2 : Int)) (F3 : IntKind.u64.wrap ((Q : Int) * (Y : Int)) = (k3 : Int)) (F4 : IntKind.u64.wrap ((k2 : Int) - (k3 : Int)) = (v : Int))
    (F5 : (v : Int) / (a : Int) = (q2 : Int)) (F5' : IntKind.u64.wrap (q2 : Int) = (q2 : Int)) (F6 : IntKind.u64.wrap ((q2 : Int) * (a : Int)) = (p2 : Int)) (F7 : IntKind.u64.wrap ((v : Int) - (p2 : Int)) = (r2 : Int))
    (R2 : D64.Rel v a b n q2 r2) (vY : Hid (v < a * 4294967296 + b)) (HQ2 : Hid (Q2 = (v * 4294967296 + n) / (a * 4294967296 + b)))
    (G1 : IntKind.u64.wrap ((Q : Int) * 4294967296) = (z1 : Int)) (G2 : IntKind.u64.wrap ((z1 : Int) + (Q2 : Int)) = (z2 : Int))
    (G3 : IntKind.u64.wrap ((v : Int) * 4294967296) = (j1 : Int)) (G4 : IntKind.u64.wrap ((j1 : Int) + (n : Int)) = (j2 : Int)) (G5 : IntKind.u64.wrap ((Q2 : Int) * (Y : Int)) = (j3 : Int)) (G6 : IntKind.u64.wrap ((j2 : Int) - (j3 : Int)) = (j4 : Int)) (G7 : (j4 : Int) / 2 ^ s = (rem : Int)) :
    Calls Tryz.prog 82 #[.int .u64 h, .int .u64 l, .int .u64 y] w fun e w' => e = .returned (.tuple #[.int .u64 (z2 : Int), .int .u64 (rem : Int)]) ∧ w = w' := by
  have a0 : a ≠ 0 := by omega
  have a3 : ((a : Int) == 0) = false := by simp; omega
  have a4 : (0 : Int) < (a : Int) := by omega
  have HR1 := hide R1
  have HR2 := hide R2
  clear R1 R2
  go_enter Tryz.func82, Tryz.ntmps82
  go_wp2_with fail
  refine LZ.mono ?_
  rintro e w' ⟨rfl, rfl⟩
  go_wp2
  go_loop [15, 16] (fun vq v16 => ∃ q r : Nat, vq = .int .u64 q ∧ v16 = .int .u64 r ∧ Hid (D64.Rel u a b m q r)) (fun vq _ => (intOf vq).toNat)
  case atStart => exact ⟨_, _, rfl, rfl, HR1.out⟩
  case round =>
    obtain ⟨q, r, rfl, rfl, hrel⟩ := hrel
    have bd := hrel.out.bounds b2 m2
    have q4 := hrel.out.2.2.1
    have r4 := hrel.out.2.2.2
    obtain ⟨x, hx⟩ : ∃ x : Nat, x = q * b := ⟨_, rfl⟩
    have W1 : IntKind.u64.wrap ((q : Int) * (b : Int)) = (x : Int) := by rw [IntKind.wrap_u64, hx, ← Int.natCast_mul]; rw [← hx] at bd ⊢; omega
    have W2 : IntKind.u64.wrap (4294967296 * (r : Int)) = ((4294967296 * r : Nat) : Int) := by rw [IntKind.wrap_u64]; omega
    obtain ⟨r', hr'⟩ : ∃ r' : Nat, r' = 4294967296 * r := ⟨_, rfl⟩
    rw [← hr'] at W2
    obtain ⟨tt, htt⟩ : ∃ tt : Nat, tt = r' + m := ⟨_, rfl⟩
    have W3 : IntKind.u64.wrap ((r' : Int) + (m : Int)) = (tt : Int) := by rw [IntKind.wrap_u64]; omega
    have W5 : IntKind.u64.wrap ((r : Int) + (a : Int)) = ((r + a : Nat) : Int) := by rw [IntKind.wrap_u64]; omega
    obtain ⟨ra, hra⟩ : ∃ ra : Nat, ra = r + a := ⟨_, rfl⟩
    rw [← hra] at W5
    have hc : (4294967296 ≤ q) ∨ (q < 4294967296 ∧ tt < x) ∨ (q < 4294967296 ∧ x ≤ tt) := by omega
    have HX := hide hx
    have HT := hide htt
    have HR' := hide hr'
    have HRA := hide hra
    have QI := q4
    clear bd hx htt hr' hra
    rcases hc with hc | ⟨hc, hc'⟩ | ⟨hc, hc'⟩
    · have dn := hrel.out.down (by omega) uY.out m2 a2 b2 (.inl hc)
      rw [← HRA.out] at dn
      obtain ⟨d1, d2, d3, d4⟩ := dn
      have W4 : IntKind.u64.wrap ((q : Int) - 1) = ((q - 1 : Nat) : Int) := by rw [IntKind.wrap_u64]; omega
      obtain ⟨qm, hqm⟩ : ∃ qm : Nat, qm = q - 1 := ⟨_, rfl⟩
      rw [← hqm] at W4 d3 d4
      have HQM := hide hqm
      have D3 := hide d3
      have D4 := hide d4
      have t1 : decide (4294967296 ≤ q) = true := by simp; omega
      have t1' : decide ((4294967296 : Int) ≤ (q : Int)) = true := by simp; omega
      have md : Hid (qm < q) := hide (by omega)
      clear hqm d3 d4 d1 d2 q4 r4
      rcases Nat.lt_or_ge ra 4294967296 with hb4 | hb4
      · have t3 : decide (4294967296 ≤ ra) = false := by simp; omega
        have t3' : decide ((4294967296 : Int) ≤ (ra : Int)) = false := by simp; omega
        go_wp2
        go_round
        case rel => exact ⟨qm, ra, rfl, rfl, D3.out hb4⟩
        case measure => have := md.out; simp [intOf]; omega
      · have t3 : decide (4294967296 ≤ ra) = true := by simp; omega
        have t3' : decide ((4294967296 : Int) ≤ (ra : Int)) = true := by simp; omega
        obtain rfl : qm = Q := (D4.out hb4).trans HQ.out.symm
        clear D3 D4
        go_wp2
        go_loop [18, 16] (fun vq v16 => ∃ q r : Nat, vq = .int .u64 q ∧ v16 = .int .u64 r ∧ Hid (D64.Rel v a b n q r)) (fun vq _ => (intOf vq).toNat)
        case atStart => exact ⟨_, _, rfl, rfl, HR2.out⟩
        case round =>
          obtain ⟨q, r, rfl, rfl, hrel⟩ := hrel
          have bd := hrel.out.bounds b2 n2
          have q4 := hrel.out.2.2.1
          have r4 := hrel.out.2.2.2
          obtain ⟨x, hx⟩ : ∃ x : Nat, x = q * b := ⟨_, rfl⟩
          have W1 : IntKind.u64.wrap ((q : Int) * (b : Int)) = (x : Int) := by rw [IntKind.wrap_u64, hx, ← Int.natCast_mul]; rw [← hx] at bd ⊢; omega
          have W2 : IntKind.u64.wrap (4294967296 * (r : Int)) = ((4294967296 * r : Nat) : Int) := by rw [IntKind.wrap_u64]; omega
          obtain ⟨r', hr'⟩ : ∃ r' : Nat, r' = 4294967296 * r := ⟨_, rfl⟩
          rw [← hr'] at W2
          obtain ⟨tt, htt⟩ : ∃ tt : Nat, tt = r' + n := ⟨_, rfl⟩
          have W3 : IntKind.u64.wrap ((r' : Int) + (n : Int)) = (tt : Int) := by rw [IntKind.wrap_u64]; omega
          have W5 : IntKind.u64.wrap ((r : Int) + (a : Int)) = ((r + a : Nat) : Int) := by rw [IntKind.wrap_u64]; omega
          obtain ⟨ra, hra⟩ : ∃ ra : Nat, ra = r + a := ⟨_, rfl⟩
          rw [← hra] at W5
          have hc : (4294967296 ≤ q) ∨ (q < 4294967296 ∧ tt < x) ∨ (q < 4294967296 ∧ x ≤ tt) := by omega
          have HX := hide hx
          have HT := hide htt
          have HR' := hide hr'
          have HRA := hide hra
          have QI := q4
          clear bd hx htt hr' hra
          rcases hc with hc | ⟨hc, hc'⟩ | ⟨hc, hc'⟩
          · have dn := hrel.out.down (by omega) vY.out n2 a2 b2 (.inl hc)
            rw [← HRA.out] at dn
            obtain ⟨d1, d2, d3, d4⟩ := dn
            have W4 : IntKind.u64.wrap ((q : Int) - 1) = ((q - 1 : Nat) : Int) := by rw [IntKind.wrap_u64]; omega
            obtain ⟨qm, hqm⟩ : ∃ qm : Nat, qm = q - 1 := ⟨_, rfl⟩
            rw [← hqm] at W4 d3 d4
            have HQM := hide hqm
            have D3 := hide d3
            have D4 := hide d4
            have t1 : decide (4294967296 ≤ q) = true := by simp; omega
            have t1' : decide ((4294967296 : Int) ≤ (q : Int)) = true := by simp; omega
            have md : Hid (qm < q) := hide (by omega)
            clear hqm d3 d4 d1 d2 q4 r4
            rcases Nat.lt_or_ge ra 4294967296 with hb4 | hb4
            · have t3 : decide (4294967296 ≤ ra) = false := by simp; omega
              have t3' : decide ((4294967296 : Int) ≤ (ra : Int)) = false := by simp; omega
              go_wp2
              go_round
              case rel => exact ⟨qm, ra, rfl, rfl, D3.out hb4⟩
              case measure => have := md.out; simp [intOf]; omega
            · have t3 : decide (4294967296 ≤ ra) = true := by simp; omega
              have t3' : decide ((4294967296 : Int) ≤ (ra : Int)) = true := by simp; omega
              obtain rfl : qm = Q2 := (D4.out hb4).trans HQ2.out.symm
              clear D3 D4
              go_wp2
              go_ret2
              exact ⟨rfl, rfl⟩
          · have dn := hrel.out.down (by omega) vY.out n2 a2 b2 (.inr (by rw [← HX.out, ← HR'.out, ← HT.out]; exact hc'))
            rw [← HRA.out] at dn
            obtain ⟨d1, d2, d3, d4⟩ := dn
            have W4 : IntKind.u64.wrap ((q : Int) - 1) = ((q - 1 : Nat) : Int) := by rw [IntKind.wrap_u64]; omega
            obtain ⟨qm, hqm⟩ : ∃ qm : Nat, qm = q - 1 := ⟨_, rfl⟩
            rw [← hqm] at W4 d3 d4
            have HQM := hide hqm
            have D3 := hide d3
            have D4 := hide d4
            have t1 : decide (4294967296 ≤ q) = false := by simp; omega
            have t1' : decide ((4294967296 : Int) ≤ (q : Int)) = false := by simp; omega
            have t2 : decide (tt < x) = true := by simp; omega
            have md : Hid (qm < q) := hide (by omega)
            clear hqm d3 d4 d1 d2 q4 r4
            rcases Nat.lt_or_ge ra 4294967296 with hb4 | hb4
            · have t3 : decide (4294967296 ≤ ra) = false := by simp; omega
              have t3' : decide ((4294967296 : Int) ≤ (ra : Int)) = false := by simp; omega
              go_wp2
              go_round
              case rel => exact ⟨qm, ra, rfl, rfl, D3.out hb4⟩
              case measure => have := md.out; simp [intOf]; omega
            · have t3 : decide (4294967296 ≤ ra) = true := by simp; omega
              have t3' : decide ((4294967296 : Int) ≤ (ra : Int)) = true := by simp; omega
              obtain rfl : qm = Q2 := (D4.out hb4).trans HQ2.out.symm
              clear D3 D4
              go_wp2
              go_ret2
              exact ⟨rfl, rfl⟩
          · have dn := hide (hrel.out.done (by omega) (by rw [← HX.out, ← HR'.out, ← HT.out]; omega))
            have t1 : decide (4294967296 ≤ q) = false := by simp; omega
            have t1' : decide ((4294967296 : Int) ≤ (q : Int)) = false := by simp; omega
            have t2 : decide (tt < x) = false := by simp; omega
            obtain rfl : q = Q2 := dn.out.trans HQ2.out.symm
            clear q4 r4
            go_wp2
            go_ret2
            exact ⟨rfl, rfl⟩
    · have dn := hrel.out.down (by omega) uY.out m2 a2 b2 (.inr (by rw [← HX.out, ← HR'.out, ← HT.out]; exact hc'))
      rw [← HRA.out] at dn
      obtain ⟨d1, d2, d3, d4⟩ := dn
      have W4 : IntKind.u64.wrap ((q : Int) - 1) = ((q - 1 : Nat) : Int) := by rw [IntKind.wrap_u64]; omega
      obtain ⟨qm, hqm⟩ : ∃ qm : Nat, qm = q - 1 := ⟨_, rfl⟩
      rw [← hqm] at W4 d3 d4
      have HQM := hide hqm
      have D3 := hide d3
      have D4 := hide d4
      have t1 : decide (4294967296 ≤ q) = false := by simp; omega
      have t1' : decide ((4294967296 : Int) ≤ (q : Int)) = false := by simp; omega
      have t2 : decide (tt < x) = true := by simp; omega
      have md : Hid (qm < q) := hide (by omega)
      clear hqm d3 d4 d1 d2 q4 r4
      rcases Nat.lt_or_ge ra 4294967296 with hb4 | hb4
      · have t3 : decide (4294967296 ≤ ra) = false := by simp; omega
        have t3' : decide ((4294967296 : Int) ≤ (ra : Int)) = false := by simp; omega
        go_wp2
        go_round
        case rel => exact ⟨qm, ra, rfl, rfl, D3.out hb4⟩
        case measure => have := md.out; simp [intOf]; omega
      · have t3 : decide (4294967296 ≤ ra) = true := by simp; omega
        have t3' : decide ((4294967296 : Int) ≤ (ra : Int)) = true := by simp; omega
        obtain rfl : qm = Q := (D4.out hb4).trans HQ.out.symm
        clear D3 D4
        go_wp2
        go_loop [18, 16] (fun vq v16 => ∃ q r : Nat, vq = .int .u64 q ∧ v16 = .int .u64 r ∧ Hid (D64.Rel v a b n q r)) (fun vq _ => (intOf vq).toNat)
        case atStart => exact ⟨_, _, rfl, rfl, HR2.out⟩
        case round =>
          obtain ⟨q, r, rfl, rfl, hrel⟩ := hrel
          have bd := hrel.out.bounds b2 n2
          have q4 := hrel.out.2.2.1
          have r4 := hrel.out.2.2.2
          obtain ⟨x, hx⟩ : ∃ x : Nat, x = q * b := ⟨_, rfl⟩
          have W1 : IntKind.u64.wrap ((q : Int) * (b : Int)) = (x : Int) := by rw [IntKind.wrap_u64, hx, ← Int.natCast_mul]; rw [← hx] at bd ⊢; omega
          have W2 : IntKind.u64.wrap (4294967296 * (r : Int)) = ((4294967296 * r : Nat) : Int) := by rw [IntKind.wrap_u64]; omega
          obtain ⟨r', hr'⟩ : ∃ r' : Nat, r' = 4294967296 * r := ⟨_, rfl⟩
          rw [← hr'] at W2
          obtain ⟨tt, htt⟩ : ∃ tt : Nat, tt = r' + n := ⟨_, rfl⟩
          have W3 : IntKind.u64.wrap ((r' : Int) + (n : Int)) = (tt : Int) := by rw [IntKind.wrap_u64]; omega
          have W5 : IntKind.u64.wrap ((r : Int) + (a : Int)) = ((r + a : Nat) : Int) := by rw [IntKind.wrap_u64]; omega
          obtain ⟨ra, hra⟩ : ∃ ra : Nat, ra = r + a := ⟨_, rfl⟩
          rw [← hra] at W5
          have hc : (4294967296 ≤ q) ∨ (q < 4294967296 ∧ tt < x) ∨ (q < 4294967296 ∧ x ≤ tt) := by omega
          have HX := hide hx
          have HT := hide htt
          have HR' := hide hr'
          have HRA := hide hra
          have QI := q4
          clear bd hx htt hr' hra
          rcases hc with hc | ⟨hc, hc'⟩ | ⟨hc, hc'⟩
          · have dn := hrel.out.down (by omega) vY.out n2 a2 b2 (.inl hc)
            rw [← HRA.out] at dn
            obtain ⟨d1, d2, d3, d4⟩ := dn
            have W4 : IntKind.u64.wrap ((q : Int) - 1) = ((q - 1 : Nat) : Int) := by rw [IntKind.wrap_u64]; omega
            obtain ⟨qm, hqm⟩ : ∃ qm : Nat, qm = q - 1 := ⟨_, rfl⟩
            rw [← hqm] at W4 d3 d4
            have HQM := hide hqm
            have D3 := hide d3
            have D4 := hide d4
            have t1 : decide (4294967296 ≤ q) = true := by simp; omega
            have t1' : decide ((4294967296 : Int) ≤ (q : Int)) = true := by simp; omega
            have md : Hid (qm < q) := hide (by omega)
            clear hqm d3 d4 d1 d2 q4 r4
            rcases Nat.lt_or_ge ra 4294967296 with hb4 | hb4
            · have t3 : decide (4294967296 ≤ ra) = false := by simp; omega
              have t3' : decide ((4294967296 : Int) ≤ (ra : Int)) = false := by simp; omega
              go_wp2
              go_round
              case rel => exact ⟨qm, ra, rfl, rfl, D3.out hb4⟩
              case measure => have := md.out; simp [intOf]; omega
            · have t3 : decide (4294967296 ≤ ra) = true := by simp; omega
              have t3' : decide ((4294967296 : Int) ≤ (ra : Int)) = true := by simp; omega
              obtain rfl : qm = Q2 := (D4.out hb4).trans HQ2.out.symm
              clear D3 D4
              go_wp2
              go_ret2
              exact ⟨rfl, rfl⟩
          · have dn := hrel.out.down (by omega) vY.out n2 a2 b2 (.inr (by rw [← HX.out, ← HR'.out, ← HT.out]; exact hc'))
            rw [← HRA.out] at dn
            obtain ⟨d1, d2, d3, d4⟩ := dn
            have W4 : IntKind.u64.wrap ((q : Int) - 1) = ((q - 1 : Nat) : Int) := by rw [IntKind.wrap_u64]; omega
            obtain ⟨qm, hqm⟩ : ∃ qm : Nat, qm = q - 1 := ⟨_, rfl⟩
            rw [← hqm] at W4 d3 d4
            have HQM := hide hqm
            have D3 := hide d3
            have D4 := hide d4
            have t1 : decide (4294967296 ≤ q) = false := by simp; omega
            have t1' : decide ((4294967296 : Int) ≤ (q : Int)) = false := by simp; omega
            have t2 : decide (tt < x) = true := by simp; omega
            have md : Hid (qm < q) := hide (by omega)
            clear hqm d3 d4 d1 d2 q4 r4
            rcases Nat.lt_or_ge ra 4294967296 with hb4 | hb4
            · have t3 : decide (4294967296 ≤ ra) = false := by simp; omega
              have t3' : decide ((4294967296 : Int) ≤ (ra : Int)) = false := by simp; omega
              go_wp2
              go_round
              case rel => exact ⟨qm, ra, rfl, rfl, D3.out hb4⟩
              case measure => have := md.out; simp [intOf]; omega
            · have t3 : decide (4294967296 ≤ ra) = true := by simp; omega
              have t3' : decide ((4294967296 : Int) ≤ (ra : Int)) = true := by simp; omega
              obtain rfl : qm = Q2 := (D4.out hb4).trans HQ2.out.symm
              clear D3 D4
              go_wp2
              go_ret2
              exact ⟨rfl, rfl⟩
          · have dn := hide (hrel.out.done (by omega) (by rw [← HX.out, ← HR'.out, ← HT.out]; omega))
            have t1 : decide (4294967296 ≤ q) = false := by simp; omega
            have t1' : decide ((4294967296 : Int) ≤ (q : Int)) = false := by simp; omega
            have t2 : decide (tt < x) = false := by simp; omega
            obtain rfl : q = Q2 := dn.out.trans HQ2.out.symm
            clear q4 r4
            go_wp2
            go_ret2
            exact ⟨rfl, rfl⟩
    · have dn := hide (hrel.out.done (by omega) (by rw [← HX.out, ← HR'.out, ← HT.out]; omega))
      have t1 : decide (4294967296 ≤ q) = false := by simp; omega
      have t1' : decide ((4294967296 : Int) ≤ (q : Int)) = false := by simp; omega
      have t2 : decide (tt < x) = false := by simp; omega
      obtain rfl : q = Q := dn.out.trans HQ.out.symm
      clear q4 r4
      go_wp2
      go_loop [18, 16] (fun vq v16 => ∃ q r : Nat, vq = .int .u64 q ∧ v16 = .int .u64 r ∧ Hid (D64.Rel v a b n q r)) (fun vq _ => (intOf vq).toNat)
      case atStart => exact ⟨_, _, rfl, rfl, HR2.out⟩
      case round =>
        obtain ⟨q, r, rfl, rfl, hrel⟩ := hrel
        have bd := hrel.out.bounds b2 n2
        have q4 := hrel.out.2.2.1
        have r4 := hrel.out.2.2.2
        obtain ⟨x, hx⟩ : ∃ x : Nat, x = q * b := ⟨_, rfl⟩
        have W1 : IntKind.u64.wrap ((q : Int) * (b : Int)) = (x : Int) := by rw [IntKind.wrap_u64, hx, ← Int.natCast_mul]; rw [← hx] at bd ⊢; omega
        have W2 : IntKind.u64.wrap (4294967296 * (r : Int)) = ((4294967296 * r : Nat) : Int) := by rw [IntKind.wrap_u64]; omega
        obtain ⟨r', hr'⟩ : ∃ r' : Nat, r' = 4294967296 * r := ⟨_, rfl⟩
        rw [← hr'] at W2
        obtain ⟨tt, htt⟩ : ∃ tt : Nat, tt = r' + n := ⟨_, rfl⟩
        have W3 : IntKind.u64.wrap ((r' : Int) + (n : Int)) = (tt : Int) := by rw [IntKind.wrap_u64]; omega
        have W5 : IntKind.u64.wrap ((r : Int) + (a : Int)) = ((r + a : Nat) : Int) := by rw [IntKind.wrap_u64]; omega
        obtain ⟨ra, hra⟩ : ∃ ra : Nat, ra = r + a := ⟨_, rfl⟩
        rw [← hra] at W5
        have hc : (4294967296 ≤ q) ∨ (q < 4294967296 ∧ tt < x) ∨ (q < 4294967296 ∧ x ≤ tt) := by omega
        have HX := hide hx
        have HT := hide htt
        have HR' := hide hr'
        have HRA := hide hra
        have QI := q4
        clear bd hx htt hr' hra
        rcases hc with hc | ⟨hc, hc'⟩ | ⟨hc, hc'⟩
        · have dn := hrel.out.down (by omega) vY.out n2 a2 b2 (.inl hc)
          rw [← HRA.out] at dn
          obtain ⟨d1, d2, d3, d4⟩ := dn
          have W4 : IntKind.u64.wrap ((q : Int) - 1) = ((q - 1 : Nat) : Int) := by rw [IntKind.wrap_u64]; omega
          obtain ⟨qm, hqm⟩ : ∃ qm : Nat, qm = q - 1 := ⟨_, rfl⟩
          rw [← hqm] at W4 d3 d4
          have HQM := hide hqm
          have D3 := hide d3
          have D4 := hide d4
          have t1 : decide (4294967296 ≤ q) = true := by simp; omega
          have t1' : decide ((4294967296 : Int) ≤ (q : Int)) = true := by simp; omega
          have md : Hid (qm < q) := hide (by omega)
          clear hqm d3 d4 d1 d2 q4 r4
          rcases Nat.lt_or_ge ra 4294967296 with hb4 | hb4
          · have t3 : decide (4294967296 ≤ ra) = false := by simp; omega
            have t3' : decide ((4294967296 : Int) ≤ (ra : Int)) = false := by simp; omega
            go_wp2
            go_round
            case rel => exact ⟨qm, ra, rfl, rfl, D3.out hb4⟩
            case measure => have := md.out; simp [intOf]; omega
          · have t3 : decide (4294967296 ≤ ra) = true := by simp; omega
            have t3' : decide ((4294967296 : Int) ≤ (ra : Int)) = true := by simp; omega
            obtain rfl : qm = Q2 := (D4.out hb4).trans HQ2.out.symm
            clear D3 D4
            go_wp2
            go_ret2
            exact ⟨rfl, rfl⟩
        · have dn := hrel.out.down (by omega) vY.out n2 a2 b2 (.inr (by rw [← HX.out, ← HR'.out, ← HT.out]; exact hc'))
          rw [← HRA.out] at dn
          obtain ⟨d1, d2, d3, d4⟩ := dn
          have W4 : IntKind.u64.wrap ((q : Int) - 1) = ((q - 1 : Nat) : Int) := by rw [IntKind.wrap_u64]; omega
          obtain ⟨qm, hqm⟩ : ∃ qm : Nat, qm = q - 1 := ⟨_, rfl⟩
          rw [← hqm] at W4 d3 d4
          have HQM := hide hqm
          have D3 := hide d3
          have D4 := hide d4
          have t1 : decide (4294967296 ≤ q) = false := by simp; omega
          have t1' : decide ((4294967296 : Int) ≤ (q : Int)) = false := by simp; omega
          have t2 : decide (tt < x) = true := by simp; omega
          have md : Hid (qm < q) := hide (by omega)
          clear hqm d3 d4 d1 d2 q4 r4
          rcases Nat.lt_or_ge ra 4294967296 with hb4 | hb4
          · have t3 : decide (4294967296 ≤ ra) = false := by simp; omega
            have t3' : decide ((4294967296 : Int) ≤ (ra : Int)) = false := by simp; omega
            go_wp2
            go_round
            case rel => exact ⟨qm, ra, rfl, rfl, D3.out hb4⟩
            case measure => have := md.out; simp [intOf]; omega
          · have t3 : decide (4294967296 ≤ ra) = true := by simp; omega
            have t3' : decide ((4294967296 : Int) ≤ (ra : Int)) = true := by simp; omega
            obtain rfl : qm = Q2 := (D4.out hb4).trans HQ2.out.symm
            clear D3 D4
            go_wp2
            go_ret2
            exact ⟨rfl, rfl⟩
        · have dn := hide (hrel.out.done (by omega) (by rw [← HX.out, ← HR'.out, ← HT.out]; omega))
          have t1 : decide (4294967296 ≤ q) = false := by simp; omega
          have t1' : decide ((4294967296 : Int) ≤ (q : Int)) = false := by simp; omega
          have t2 : decide (tt < x) = false := by simp; omega
          obtain rfl : q = Q2 := dn.out.trans HQ2.out.symm
          clear q4 r4
          go_wp2
          go_ret2
          exact ⟨rfl, rfl⟩
end Go.Proofs.YtlnlaopokelggaaGreatDoor
