/- Parts of one proof, joined: Tables of intensities, said of lists: where a number is in an ascending list, and values on the line through points. math/bits.Div64 where the high word is 0; it leaves memory as it is. Division of two words by one, half by half, said of natural numbers. math/bits.Div64: it returns quotient and rest of two words by one, wherever the high word is below the divisor; it leaves memory as it is. math/bits.Div64, every high word below the divisor: quotient and rest; memory is left as it is. The program's wide integers from 0 on: Product, Floor, Ceil: what each returns where the quotient fits; nothing that was there is turned. Signed wide integers: their parts and words, said of integers. -/
import Derived.Test.YtbmocghfpcfmhaaDoorPkCostsLater1
import Derived.Deep.QuietTactic
import Derived.BigQuiet
import Derived.StillTailTactics
import Derived.Deep.RegionHeld3
import Derived.Test.YtbmocghfpcfmhaaDoorShelf2
import Derived.Test.YtbmocghfpcfmhaaDoorShelf
namespace Go.Proofs.YtbmocghfpcfmhaaDoor
open Go.RowKit

/-- numbers that ascend strictly -/
def Asc (l : List Int) : Prop := ∀ i, i + 1 < l.length → l.getD i 0 < l.getD (i + 1) 0
theorem Asc.lt {l : List Int} (h : Asc l) {i : Nat} : ∀ {j : Nat}, i < j → j < l.length → l.getD i 0 < l.getD j 0
  | 0, hij, _ => absurd hij (by omega)
  | j + 1, hij, hj => by
    have s := h j hj
    by_cases e : i = j
    · subst e; exact s
    · have := Asc.lt h (i := i) (j := j) (by omega) (by omega)
      omega
theorem Asc.le {l : List Int} (h : Asc l) {i j : Nat} (hij : i ≤ j) (hj : j < l.length) : l.getD i 0 ≤ l.getD j 0 := by
  by_cases e : i = j
  · subst e; omega
  · have := h.lt (i := i) (j := j) (by omega) hj; omega
theorem Asc.inj {l : List Int} (h : Asc l) {i j : Nat} (hi : i < l.length) (hj : j < l.length) (e : l.getD i 0 = l.getD j 0) : i = j := by
  rcases Nat.lt_trichotomy i j with k | k | k
  · have := h.lt k hj; omega
  · exact k
  · have := h.lt k hi; omega

/-- a place between two neighbours of a list, or at one of its numbers -/
structure Pl where
  lo : Nat
  hi : Nat
  rest : Int
  whole : Int
def IsPl (l : List Int) (x : Int) (p : Pl) : Prop :=
  p.hi < l.length ∧ ((p.hi = p.lo ∧ p.rest = 0 ∧ p.whole = 1 ∧ l.getD p.lo 0 = x) ∨ (p.hi = p.lo + 1 ∧ l.getD p.lo 0 < x ∧ x < l.getD p.hi 0 ∧ p.rest = x - l.getD p.lo 0 ∧ p.whole = l.getD p.hi 0 - l.getD p.lo 0))
def Pl.val (p : Pl) (f : Nat → Int) : Int := (p.whole - p.rest) * f p.lo + p.rest * f p.hi
theorem IsPl.bd {l : List Int} {x : Int} {p : Pl} (h : IsPl l x p) : 0 ≤ p.rest ∧ p.rest < p.whole ∧ p.lo ≤ p.hi ∧ p.lo < l.length ∧ 0 < p.whole ∧ l.getD p.lo 0 ≤ x ∧ x ≤ l.getD p.hi 0 := by
  obtain ⟨h1, ⟨a, b, c, d⟩ | ⟨a, b, c, d, e⟩⟩ := h
  · rw [a]; omega
  · omega
theorem IsPl.unique {l : List Int} (ha : Asc l) {x : Int} {p q : Pl} (h : IsPl l x p) (k : IsPl l x q) : p = q := by
  have b := h.bd
  have b' := k.bd
  obtain ⟨h1, h2⟩ := h
  obtain ⟨k1, k2⟩ := k
  have elo : p.lo = q.lo := by
    rcases Nat.lt_trichotomy p.lo q.lo with s | s | s
    · exfalso
      have t := ha.lt s b'.2.2.2.1
      rcases h2 with ⟨a, _, _, d⟩ | ⟨a, _, c, _⟩
      · omega
      · have := ha.le (i := p.hi) (j := q.lo) (by omega) b'.2.2.2.1
        omega
    · exact s
    · exfalso
      have t := ha.lt s b.2.2.2.1
      rcases k2 with ⟨a, _, _, d⟩ | ⟨a, _, c, _⟩
      · omega
      · have := ha.le (i := q.hi) (j := p.lo) (by omega) b.2.2.2.1
        omega
  cases p; cases q
  simp only at elo
  subst elo
  simp only [Pl.mk.injEq, true_and] at *
  rcases h2 with ⟨a, b1, c, d⟩ | ⟨a, b1, c, d, e⟩ <;> rcases k2 with ⟨a', b1', c', d'⟩ | ⟨a', b1', c', d', e'⟩
  · omega
  · omega
  · omega
  · subst a a'
    omega
/-- how many numbers are at most x -/
def cnt (l : List Int) (x : Int) : Nat := (l.takeWhile fun a => decide (a ≤ x)).length
theorem cnt_le (l : List Int) (x : Int) : cnt l x ≤ l.length := (List.takeWhile_sublist _).length_le
theorem cnt_lt : ∀ (l : List Int) (x : Int) (i : Nat), i < cnt l x → l.getD i 0 ≤ x
  | [], _, i, h => by simp [cnt] at h
  | a :: l, x, i, h => by
    unfold cnt at h
    rw [List.takeWhile_cons] at h
    split at h
    · rename_i hx
      have hx' : a ≤ x := by simpa using hx
      cases i with
      | zero => simpa using hx'
      | succ i => simpa using cnt_lt l x i (by simpa [cnt] using h)
    · simp at h
theorem cnt_ge : ∀ (l : List Int) (x : Int), cnt l x < l.length → x < l.getD (cnt l x) 0
  | [], _, h => by simp at h
  | a :: l, x, h => by
    by_cases hx : a ≤ x
    · have e : cnt (a :: l) x = cnt l x + 1 := by simp [cnt, hx]
      rw [e] at h ⊢
      simpa using cnt_ge l x (by simpa using h)
    · have e : cnt (a :: l) x = 0 := by simp [cnt, hx]
      rw [e]; simp; omega
/-- the place of a number that is within a list -/
def plc (l : List Int) (x : Int) : Pl :=
  if l.getD (cnt l x - 1) 0 = x then ⟨cnt l x - 1, cnt l x - 1, 0, 1⟩ else ⟨cnt l x - 1, cnt l x, x - l.getD (cnt l x - 1) 0, l.getD (cnt l x) 0 - l.getD (cnt l x - 1) 0⟩
def inL (l : List Int) (x : Int) : Bool := decide (l.getD 0 0 ≤ x ∧ x ≤ l.getD (l.length - 1) 0)
theorem inL_iff {l : List Int} {x : Int} : inL l x = true ↔ l.getD 0 0 ≤ x ∧ x ≤ l.getD (l.length - 1) 0 := by simp [inL]
theorem plc_is {l : List Int} (_ha : Asc l) {x : Int} (hn : 1 ≤ l.length) (h1 : l.getD 0 0 ≤ x) (h2 : x ≤ l.getD (l.length - 1) 0) : IsPl l x (plc l x) := by
  have c0 : 1 ≤ cnt l x := by
    rcases Nat.eq_zero_or_pos (cnt l x) with e | e
    · have := cnt_ge l x (by omega)
      rw [e] at this; omega
    · exact e
  have c1 := cnt_le l x
  have lo := cnt_lt l x (cnt l x - 1) (by omega)
  unfold plc
  split
  · rename_i e
    exact ⟨by simp only; omega, .inl ⟨rfl, rfl, rfl, e⟩⟩
  · rename_i e
    have c2 : cnt l x < l.length := by
      rcases Nat.lt_or_ge (cnt l x) l.length with k | k
      · exact k
      · have : cnt l x - 1 = l.length - 1 := by omega
        rw [this] at lo e; omega
    have hi := cnt_ge l x c2
    exact ⟨c2, .inr ⟨by simp only; omega, by simp only; omega, hi, rfl, rfl⟩⟩
theorem plc_eq {l : List Int} (ha : Asc l) {x : Int} (hn : 1 ≤ l.length) {p : Pl} (h : IsPl l x p) : p = plc l x := by
  have b := h.bd
  refine h.unique ha (plc_is ha hn ?_ ?_)
  · have := ha.le (i := 0) (j := p.lo) (Nat.zero_le _) b.2.2.2.1; omega
  · have := ha.le (i := p.hi) (j := l.length - 1) (by have := h.1; omega) (by omega); omega
theorem plc_at {l : List Int} (ha : Asc l) {i : Nat} (hi : i < l.length) : plc l (l.getD i 0) = ⟨i, i, 0, 1⟩  := by
  have h : IsPl l (l.getD i 0) (⟨i, i, 0, 1⟩ : Pl) := ⟨hi, Or.inl ⟨Eq.refl i, Eq.refl 0, Eq.refl 1, Eq.refl _⟩⟩
  exact (plc_eq ha (by omega) h).symm

/-- values that do not descend -/
def Mon (n : Nat) (f : Nat → Int) : Prop := ∀ i j, i ≤ j → j < n → f i ≤ f j
theorem Mon.of_step {n : Nat} {f : Nat → Int} (h : ∀ i, i + 1 < n → f i ≤ f (i + 1)) : Mon n f := by
  intro i j
  induction j with
  | zero => intro h1 _; have : i = 0 := by omega
            subst this; exact Int.le_refl _
  | succ j ih =>
    intro h1 h2
    by_cases e : i = j + 1
    · subst e; exact Int.le_refl _
    · have := ih (by omega) (by omega)
      have := h j h2
      omega
theorem lin0 (w r a b : Int) : (w - r) * a + r * b = w * a + r * (b - a) := by grind
theorem lin1 (w r a b : Int) : (w - r) * a + r * b = w * b - (w - r) * (b - a) := by grind
theorem val_bd {l : List Int} {x : Int} {p : Pl} (h : IsPl l x p) {f : Nat → Int} (hm : Mon l.length f) : f p.lo * p.whole ≤ p.val f ∧ p.val f ≤ f p.hi * p.whole := by
  have b := h.bd
  have hf := hm p.lo p.hi b.2.2.1 h.1
  have e0 : p.val f = p.whole * f p.lo + p.rest * (f p.hi - f p.lo) := lin0 ..
  have e1 : p.val f = p.whole * f p.hi - (p.whole - p.rest) * (f p.hi - f p.lo) := lin1 ..
  have m0 : 0 ≤ p.rest * (f p.hi - f p.lo) := Int.mul_nonneg b.1 (by omega)
  have m1 : 0 ≤ (p.whole - p.rest) * (f p.hi - f p.lo) := Int.mul_nonneg (by omega) (by omega)
  constructor
  · rw [e0, Int.mul_comm]; omega
  · rw [e1, Int.mul_comm]; omega
/-- the values on the line through the points do not descend -/
theorem val_mono {l : List Int} (ha : Asc l) {x y : Int} {p q : Pl} (h : IsPl l x p) (k : IsPl l y q) {f : Nat → Int} (hm : Mon l.length f) (hxy : x ≤ y) : p.val f * q.whole ≤ q.val f * p.whole := by
  have b := h.bd
  have b' := k.bd
  by_cases c : p.hi ≤ q.lo
  · have v1 := (val_bd h hm).2
    have v2 := (val_bd k hm).1
    have f1 := hm p.hi q.lo c b'.2.2.2.1
    have s1 : p.val f * q.whole ≤ f p.hi * p.whole * q.whole := Int.mul_le_mul_of_nonneg_right v1 (by omega)
    have s2 : f p.hi * p.whole * q.whole ≤ f q.lo * p.whole * q.whole := Int.mul_le_mul_of_nonneg_right (Int.mul_le_mul_of_nonneg_right f1 (by omega)) (by omega)
    have s3 : f q.lo * q.whole * p.whole ≤ q.val f * p.whole := Int.mul_le_mul_of_nonneg_right v2 (by omega)
    have s4 : f q.lo * p.whole * q.whole = f q.lo * q.whole * p.whole := by grind
    omega
  · obtain ⟨h1, h2⟩ := h
    obtain ⟨k1, k2⟩ := k
    have e : p.lo = q.lo ∧ p.hi = q.hi ∧ p.whole = q.whole ∧ p.rest ≤ q.rest := by
      rcases h2 with ⟨a, r, w, d⟩ | ⟨a, d, e, r, w⟩
      · exfalso
        have := ha.lt (i := q.lo) (j := p.lo) (by omega) b.2.2.2.1
        rcases k2 with ⟨a', _, _, d'⟩ | ⟨a', _, d', _⟩
        · omega
        · have := ha.le (i := q.hi) (j := p.lo) (by omega) b.2.2.2.1
          omega
      · by_cases s : p.lo = q.lo
        · rcases k2 with ⟨a', r', w', d'⟩ | ⟨a', d', e', r', w'⟩
          · rw [s] at d; omega
          · have t : p.hi = q.hi := by omega
            rw [s, t] at w; rw [s] at r
            omega
        · exfalso
          have := ha.lt (i := q.lo) (j := p.lo) (by omega) b.2.2.2.1
          rcases k2 with ⟨a', _, _, d'⟩ | ⟨a', _, d', _⟩
          · omega
          · have := ha.le (i := q.hi) (j := p.lo) (by omega) b.2.2.2.1
            omega
    obtain ⟨e1, e2, e3, e4⟩ := e
    have hf := hm p.lo p.hi b.2.2.1 h1
    rw [e3]
    refine Int.mul_le_mul_of_nonneg_right ?_ (by omega)
    unfold Pl.val
    rw [← e1, ← e2, ← e3]
    have m0 : 0 ≤ (q.rest - p.rest) * (f p.hi - f p.lo) := Int.mul_nonneg (by omega) (by omega)
    have m1 : (p.whole - q.rest) * f p.lo + q.rest * f p.hi - ((p.whole - p.rest) * f p.lo + p.rest * f p.hi) = (q.rest - p.rest) * (f p.hi - f p.lo) := by grind
    omega
theorem val_le {p : Pl} {f g : Nat → Int} (h0 : 0 ≤ p.rest) (h1 : p.rest ≤ p.whole) (hl : f p.lo ≤ g p.lo) (hh : f p.hi ≤ g p.hi) : p.val f ≤ p.val g := by
  unfold Pl.val
  have a := Int.mul_le_mul_of_nonneg_left hl (show 0 ≤ p.whole - p.rest by omega)
  have b := Int.mul_le_mul_of_nonneg_left hh h0
  omega
theorem val_mul (p : Pl) (f : Nat → Int) (c : Int) : p.val (fun i => f i * c) = p.val f * c := by unfold Pl.val; grind
theorem val_comm (p q : Pl) (f : Nat → Nat → Int) : p.val (fun j => q.val (f j)) = q.val (fun i => p.val (fun j => f j i)) := by unfold Pl.val; grind

/-- quotients, rounded up -/
def cdiv (n d : Int) : Int := (n + d - 1) / d
theorem fdiv_le {n d m e : Int} (hd : 0 < d) (he : 0 < e) (h : n * e ≤ m * d) : n / d ≤ m / e := by
  rw [Int.le_ediv_iff_mul_le he]
  have a : n / d * d ≤ n := Int.ediv_mul_le n (by omega)
  have b : n / d * d * e ≤ n * e := Int.mul_le_mul_of_nonneg_right a (by omega)
  have c : n / d * e * d ≤ m * d := by have : n / d * e * d = n / d * d * e := by grind
                                       omega
  exact Int.le_of_mul_le_mul_right c hd
theorem cdiv_iff {n d q : Int} (hd : 0 < d) : cdiv n d ≤ q ↔ n ≤ q * d := by
  unfold cdiv
  constructor
  · intro h
    have a : (n + d - 1) < ((n + d - 1) / d + 1) * d := Int.lt_ediv_add_one_mul_self _ hd
    have b : ((n + d - 1) / d + 1) * d ≤ (q + 1) * d := Int.mul_le_mul_of_nonneg_right (by omega) (by omega)
    have c : (q + 1) * d = q * d + d := by grind
    omega
  · intro h
    have : (n + d - 1) / d < q + 1 := by
      rw [Int.ediv_lt_iff_lt_mul hd]
      have c : (q + 1) * d = q * d + d := by grind
      omega
    omega
theorem cdiv_le {n d m e : Int} (hd : 0 < d) (he : 0 < e) (h : n * e ≤ m * d) : cdiv n d ≤ cdiv m e := by
  rw [cdiv_iff hd]
  have a : m ≤ cdiv m e * e := (cdiv_iff he).1 (Int.le_refl _)
  have b : m * d ≤ cdiv m e * e * d := Int.mul_le_mul_of_nonneg_right a (by omega)
  have c : n * e ≤ cdiv m e * d * e := by have : cdiv m e * d * e = cdiv m e * e * d := by grind
                                          omega
  exact Int.le_of_mul_le_mul_right c he
theorem fc_le {n d : Int} (hd : 0 < d) : n / d ≤ cdiv n d ∧ cdiv n d ≤ n / d + 1 := by
  constructor
  · exact Int.ediv_le_ediv hd (by omega)
  · rw [cdiv_iff hd]
    have a : n < (n / d + 1) * d := Int.lt_ediv_add_one_mul_self _ hd
    omega
/-- both quotients are a number just where it is exact -/
theorem fc_eq {n d q : Int} (hd : 0 < d) : (n / d = q ∧ cdiv n d = q) ↔ n = q * d := by
  constructor
  · rintro ⟨h1, h2⟩
    have a := (cdiv_iff (n := n) hd (q := q)).1 (by omega)
    have b := (Int.le_ediv_iff_mul_le (a := q) (b := n) hd).1 (by omega)
    omega
  · rintro rfl
    refine ⟨Int.mul_ediv_cancel _ (by omega), ?_⟩
    have a := (cdiv_iff (n := q * d) hd (q := q)).2 (Int.le_refl _)
    have b := (fc_le (n := q * d) hd).1
    rw [Int.mul_ediv_cancel _ (by omega)] at b
    omega
end Go.Proofs.YtbmocghfpcfmhaaDoor

namespace Go.Proofs.YtbmocghfpcfmhaaDoor
open Go.RowKit

theorem ret2_int {k k' : IntKind} {a b c d : Int} (h : a = b) (h' : c = d) : Ending.returned (.tuple #[.int k a, .int k' c]) = .returned (.tuple #[.int k b, .int k' d]) := by rw [h, h']
/-- Div64 where the high word is 0 -/
theorem div64_low (l y : Nat) (hl : l < 18446744073709551616) (hy : 0 < y) (hy' : y < 18446744073709551616) (w : World) :
    Calls Tryd.prog 38 #[.int .u64 0, .int .u64 l, .int .u64 y] w fun e w' => e = .returned (.tuple #[.int .u64 ((l / y : Nat) : Int), .int .u64 ((l % y : Nat) : Int)]) ∧ ∃ n, w' = w.drewN n := by
  have g1 : (0 : Int) < (y : Int) := by omega
  have g2 : (y : Int) ≠ 0 := by omega
  have g3 : ((y : Int) == 0) = false := by simp; omega
  go_enter Tryd.func38, Tryd.ntmps38
  go_wp2
  go_quiet (fail)
  go_wp2
  go_ret2
  refine ⟨ret2_int ?_ (by simp), _, rfl⟩
  have hd : l / y ≤ l := Nat.div_le_self _ _
  have e : (l : Int) / (y : Int) = ((l / y : Nat) : Int) := by simp
  rw [e, IntKind.wrap_u64]
  generalize l / y = k at *
  omega
end Go.Proofs.YtbmocghfpcfmhaaDoor

namespace Go.Proofs.YtbmocghfpcfmhaaDoor.D64
/-- one half step of the division: q estimates N / y, with y = a * 2^32 + b -/
theorem cond_iff {q a b r u n : Nat} (h : q * a + r = u) : (q * b > 4294967296 * r + n) ↔ u * 4294967296 + n < q * (a * 4294967296 + b) := by
  have e : q * (a * 4294967296 + b) = q * a * 4294967296 + q * b := by rw [Nat.mul_add, Nat.mul_assoc]
  rw [e]
  generalize q * a = p at *
  generalize q * b = s at *
  omega
theorem gt_iff {q y N : Nat} (hy : 0 < y) : N / y < q ↔ N < q * y := Nat.div_lt_iff_lt_mul hy
/-- the estimate at the beginning -/
theorem start {u a b : Nat} (ha : 2147483648 ≤ a) (hb : b < 4294967296) (hu : u < a * 4294967296 + b) : u / a * a + u % a = u ∧ u / a ≤ 4294967297 ∧ u % a < a := by
  refine ⟨by rw [Nat.mul_comm]; exact Nat.div_add_mod u a, ?_, Nat.mod_lt _ (by omega)⟩
  have : u / a < 4294967298 := by
    rw [Nat.div_lt_iff_lt_mul (by omega)]
    omega
  omega
theorem start_ge {u a b n : Nat} (ha : 0 < a) (hn : n < 4294967296) : (u * 4294967296 + n) / (a * 4294967296 + b) ≤ u / a := by
  rw [← Nat.lt_add_one_iff, Nat.div_lt_iff_lt_mul (by omega)]
  have h := Nat.div_add_mod u a
  have h2 := Nat.mod_lt u ha
  have e : (u / a + 1) * (a * 4294967296 + b) = (a * (u / a) + a) * 4294967296 + (u / a + 1) * b := by
    rw [Nat.mul_add, ← Nat.mul_assoc, Nat.add_mul (u / a) 1 a, Nat.one_mul, Nat.mul_comm (u / a) a]
  rw [e]
  generalize a * (u / a) = p at *
  generalize (u / a + 1) * b = s at *
  omega
theorem quo_small {u y n : Nat} (hu : u < y) (hn : n < 4294967296) : (u * 4294967296 + n) / y < 4294967296 := by
  rw [Nat.div_lt_iff_lt_mul (by omega)]
  have : (u + 1) * 4294967296 ≤ y * 4294967296 := Nat.mul_le_mul_right _ hu
  omega
/-- what holds at the head of the loop -/
def Rel (u a b n q r : Nat) : Prop := q * a + r = u ∧ (u * 4294967296 + n) / (a * 4294967296 + b) ≤ q ∧ q ≤ 4294967297 ∧ r < 4294967296
theorem Rel.bounds {u a b n q r : Nat} (h : Rel u a b n q r) (hb : b < 4294967296) (hn : n < 4294967296) : q * b ≤ 18446744073709551615 ∧ 4294967296 * r + n ≤ 18446744073709551615 := by
  obtain ⟨_, _, h3, h4⟩ := h
  have := Nat.mul_le_mul h3 (show b ≤ 4294967295 by omega)
  omega
/-- the loop ends: the estimate is the quotient -/
theorem Rel.done {u a b n q r : Nat} (h : Rel u a b n q r) (hy : 0 < a * 4294967296 + b) (hc : ¬ 4294967296 * r + n < q * b) : q = (u * 4294967296 + n) / (a * 4294967296 + b) := by
  obtain ⟨h1, h2, _, _⟩ := h
  have := (cond_iff (b := b) (n := n) h1)
  have k : ¬ (u * 4294967296 + n) / (a * 4294967296 + b) < q := by
    rw [gt_iff hy, ← this]; exact hc
  omega
/-- one step down -/
theorem Rel.down {u a b n q r : Nat} (h : Rel u a b n q r) (hy : 0 < a * 4294967296 + b) (hu : u < a * 4294967296 + b) (hn : n < 4294967296) (ha : a < 4294967296) (hb : b < 4294967296) (hc : 4294967296 ≤ q ∨ 4294967296 * r + n < q * b) :
    1 ≤ q ∧ r + a < 8589934592 ∧ (r + a < 4294967296 → Rel u a b n (q - 1) (r + a)) ∧ (4294967296 ≤ r + a → q - 1 = (u * 4294967296 + n) / (a * 4294967296 + b)) := by
  obtain ⟨h1, h2, h3, h4⟩ := h
  have gt : (u * 4294967296 + n) / (a * 4294967296 + b) < q := by
    rcases hc with hc | hc
    · have := quo_small hu hn; omega
    · rw [gt_iff hy, ← cond_iff h1]; exact hc
  generalize hQ : (u * 4294967296 + n) / (a * 4294967296 + b) = Q at gt h2 ⊢
  obtain ⟨p, rfl⟩ : ∃ p, q = p + 1 := ⟨q - 1, by omega⟩
  have h5 : p * a + (r + a) = u := by rw [Nat.add_mul, Nat.one_mul] at h1; omega
  refine ⟨by omega, by omega, fun hr => ⟨by simpa using h5, by simp only [Nat.add_sub_cancel]; rw [hQ]; exact Nat.lt_succ_iff.1 gt, by simp only [Nat.add_sub_cancel]; omega, hr⟩, fun hr => ?_⟩
  have k : ¬ Q < p := by
    rw [← hQ, gt_iff hy, ← cond_iff h5]
    have := Nat.mul_le_mul (show p ≤ 4294967296 by omega) (show b ≤ 4294967295 by omega)
    omega
  simp only [Nat.add_sub_cancel]
  omega
/-- what is left, reckoned in a word -/
theorem rest_word {u y n q : Nat} (hy : 0 < y) (hy' : y < 18446744073709551616) (hq : q = (u * 4294967296 + n) / y) : ((u * 4294967296 + n : Nat) - (q * y : Nat) : Int) % 18446744073709551616 = (((u * 4294967296 + n) % y : Nat) : Int) := by
  have h := Nat.div_add_mod (u * 4294967296 + n) y
  have h2 := Nat.mod_lt (u * 4294967296 + n) hy
  have e : q * y = y * ((u * 4294967296 + n) / y) := by rw [hq, Nat.mul_comm]
  rw [e]
  generalize y * ((u * 4294967296 + n) / y) = p at *
  generalize (u * 4294967296 + n) % y = r at *
  rw [← h]
  have e2 : (((p + r : Nat) : Int) - (p : Nat)) = (r : Int) := by omega
  rw [e2, Int.emod_eq_of_lt (by omega) (by omega)]
/-- two half steps make the whole one -/
theorem two_steps {N n y : Nat} (hy : 0 < y) : (N * 4294967296 + n) / y = N / y * 4294967296 + (N % y * 4294967296 + n) / y ∧
    (N * 4294967296 + n) % y = (N % y * 4294967296 + n) % y := by
  have h := Nat.div_add_mod N y
  have e : N * 4294967296 + n = N / y * 4294967296 * y + (N % y * 4294967296 + n) := by
    have : N / y * 4294967296 * y = y * (N / y) * 4294967296 := by rw [Nat.mul_right_comm, Nat.mul_comm (N / y) y]
    rw [this]
    generalize y * (N / y) = p at *
    omega
  constructor
  · rw [e, Nat.mul_comm _ y, Nat.mul_add_div hy]
  · rw [e, Nat.mul_comm _ y, Nat.mul_add_mod]
theorem shift_div {v y p : Nat} (hp : 0 < p) : v * p / (y * p) = v / y ∧ v * p % (y * p) / p = v % y := by
  refine ⟨Nat.mul_div_mul_right v y hp, ?_⟩
  rw [Nat.mul_mod_mul_right, Nat.mul_div_cancel _ hp]
/-- the shift that brings the divisor's first bit to the top -/
theorem shift_parts {h l y c : Nat} (hc1 : 1 ≤ c) (hc2 : c ≤ 64) (b1 : 2 ^ (c - 1) ≤ y) (b2 : y < 2 ^ c) (hh : h < y) (hl : l < 18446744073709551616) :
    9223372036854775808 ≤ y * 2 ^ (64 - c) ∧ y * 2 ^ (64 - c) < 18446744073709551616 ∧ h * 2 ^ (64 - c) < 18446744073709551616 ∧ (h * 2 ^ (64 - c) ||| l / 2 ^ c) = h * 2 ^ (64 - c) + l / 2 ^ c ∧
    (h * 2 ^ (64 - c) + l / 2 ^ c) * 18446744073709551616 + l * 2 ^ (64 - c) % 18446744073709551616 = (h * 18446744073709551616 + l) * 2 ^ (64 - c) ∧
    h * 2 ^ (64 - c) + l / 2 ^ c < y * 2 ^ (64 - c) := by
  have e1 : 2 ^ (c - 1) * 2 ^ (64 - c) = 9223372036854775808 := by
    rw [← Nat.pow_add, show c - 1 + (64 - c) = 63 by omega]
  have e2 : 2 ^ c * 2 ^ (64 - c) = 18446744073709551616 := by
    rw [← Nat.pow_add, show c + (64 - c) = 64 by omega]
  have hP : 0 < 2 ^ (64 - c) := Nat.two_pow_pos _
  have hC : 0 < 2 ^ c := Nat.two_pow_pos _
  have g1 : 9223372036854775808 ≤ y * 2 ^ (64 - c) := by rw [← e1]; exact Nat.mul_le_mul_right _ b1
  have g2 : y * 2 ^ (64 - c) < 18446744073709551616 := by rw [← e2]; exact Nat.mul_lt_mul_of_pos_right b2 hP
  have g3 : h * 2 ^ (64 - c) < y * 2 ^ (64 - c) := Nat.mul_lt_mul_of_pos_right hh hP
  have g4 : l / 2 ^ c < 2 ^ (64 - c) := by
    rw [Nat.div_lt_iff_lt_mul hC, Nat.mul_comm, e2]; exact hl
  have g5 : (h * 2 ^ (64 - c) ||| l / 2 ^ c) = h * 2 ^ (64 - c) + l / 2 ^ c := by
    have := Nat.two_pow_add_eq_or_of_lt (i := 64 - c) (b := l / 2 ^ c) g4 h
    rw [Nat.mul_comm (2 ^ (64 - c)) h] at this
    exact this.symm
  have g6 : l * 2 ^ (64 - c) / 18446744073709551616 = l / 2 ^ c := by
    rw [← e2]; exact Nat.mul_div_mul_right l (2 ^ c) hP
  have g7 := Nat.div_add_mod (l * 2 ^ (64 - c)) 18446744073709551616
  rw [g6] at g7
  have g8 : (h * 2 ^ (64 - c) + l / 2 ^ c) * 18446744073709551616 + l * 2 ^ (64 - c) % 18446744073709551616 = (h * 18446744073709551616 + l) * 2 ^ (64 - c) := by
    rw [Nat.add_mul (h * 18446744073709551616) l, Nat.mul_right_comm h 18446744073709551616]
    generalize h * 2 ^ (64 - c) = x at *
    generalize l / 2 ^ c = z at *
    generalize l * 2 ^ (64 - c) = t at *
    omega
  refine ⟨g1, g2, by omega, g5, g8, ?_⟩
  have g9 : (h * 18446744073709551616 + l) * 2 ^ (64 - c) < y * 2 ^ (64 - c) * 18446744073709551616 := by
    have : h * 18446744073709551616 + l < y * 18446744073709551616 := by
      have := Nat.mul_le_mul_right 18446744073709551616 hh
      omega
    have := Nat.mul_lt_mul_of_pos_right this hP
    rw [Nat.mul_right_comm y 18446744073709551616] at this
    exact this
  rw [← g8] at g9
  generalize h * 2 ^ (64 - c) + l / 2 ^ c = x at *
  generalize y * 2 ^ (64 - c) = z at *
  omega
end Go.Proofs.YtbmocghfpcfmhaaDoor.D64

namespace Go.Proofs.YtbmocghfpcfmhaaDoor
open Go.RowKit

theorem bitLen_bd : ∀ (k x : Nat), x < 2 ^ k → k ≤ 64 → 0 < x → 1 ≤ Lib.bitLen x ∧ 2 ^ (Lib.bitLen x - 1) ≤ x ∧ x < 2 ^ Lib.bitLen x
  | 0, x, h, _, h0 => by simp at h; omega
  | k + 1, x, h, hk, h0 => by
    have h64 : x < 2 ^ 64 := Nat.lt_of_lt_of_le h (Nat.pow_le_pow_right (by omega) hk)
    rw [Lib.bitLen_half x (by omega) h64]
    rcases Nat.eq_zero_or_pos (x / 2) with h1 | h1
    · have : x = 1 := by omega
      subst this
      decide
    · have hs : x / 2 < 2 ^ k := by rw [Nat.pow_succ] at h; omega
      obtain ⟨i1, i2, i3⟩ := bitLen_bd k (x / 2) hs (by omega) h1
      generalize Lib.bitLen (x / 2) = n at *
      obtain ⟨m, rfl⟩ : ∃ m, n = m + 1 := ⟨n - 1, by omega⟩
      have e1 : 2 ^ (1 + (m + 1) - 1) = 2 ^ m * 2 := by rw [show 1 + (m + 1) - 1 = m + 1 by omega, Nat.pow_succ]
      have e2 : 2 ^ (1 + (m + 1)) = 2 ^ (m + 1) * 2 := by rw [Nat.add_comm, Nat.pow_succ]
      simp only [Nat.add_sub_cancel] at i2
      refine ⟨by omega, ?_, ?_⟩
      · rw [e1]; omega
      · rw [e2]; omega
set_option maxRecDepth 100000 in
set_option maxHeartbeats 16000000 in
theorem div64_core (h l y s s' Y a b H L u V m n q0 p0 r0 k1 k2 k3 v q2 p2 r2 z1 z2 j1 j2 j3 j4 rem Q Q2 : Nat) (g5 : decide (y ≤ h) = false) (g3 : ((y : Int) == 0) = false) (g4 : ((h : Int) == 0) = false) (w : World)
    (LZ : Calls Tryd.prog 63 #[.int .u64 (y : Int)] w fun e w' => e = .returned (.int .i64 (s : Int)) ∧ w' = w)
    (s1 : s < 64) (E1 : IntKind.u64.wrap (s : Int) = (s : Int)) (E2 : min s 64 = s) (E3 : IntKind.u64.wrap ((y : Int) * 2 ^ s) = (Y : Int)) (E4 : (Y : Int) / 4294967296 = (a : Int)) (E5 : bits .and .u64 (Y : Int) 4294967295 = (b : Int))
    (E6 : IntKind.u64.wrap ((h : Int) * 2 ^ s) = (H : Int)) (E7 : IntKind.u64.wrap (64 - (s : Int)) = (s' : Int)) (E8 : min s' 64 = s') (E9 : (l : Int) / 2 ^ s' = (L : Int)) (E10 : bits .or .u64 (H : Int) (L : Int) = (u : Int))
    (E11 : IntKind.u64.wrap ((l : Int) * 2 ^ s) = (V : Int)) (E12 : (V : Int) / 4294967296 = (m : Int)) (E13 : bits .and .u64 (V : Int) 4294967295 = (n : Int))
    (a1 : 2147483648 ≤ a) (a2 : a < 4294967296) (b2 : b < 4294967296) (m2 : m < 4294967296) (n2 : n < 4294967296)
    (E14 : (u : Int) / (a : Int) = (q0 : Int)) (E14' : IntKind.u64.wrap (q0 : Int) = (q0 : Int)) (E15 : IntKind.u64.wrap ((q0 : Int) * (a : Int)) = (p0 : Int)) (E16 : IntKind.u64.wrap ((u : Int) - (p0 : Int)) = (r0 : Int))
    (R1 : D64.Rel u a b m q0 r0) (uY : Hid (u < a * 4294967296 + b)) (HQ : Hid (Q = (u * 4294967296 + m) / (a * 4294967296 + b)))
    (F1 : IntKind.u64.wrap ((u : Int) * 4294967296) = (k1 : Int)) (F2 : IntKind.u64.wrap ((k1 : Int) + (m : Int)) = (k2 : Int)) (F3 : IntKind.u64.wrap ((Q : Int) * (Y : Int)) = (k3 : Int)) (F4 : IntKind.u64.wrap ((k2 : Int) - (k3 : Int)) = (v : Int))
    (F5 : (v : Int) / (a : Int) = (q2 : Int)) (F5' : IntKind.u64.wrap (q2 : Int) = (q2 : Int)) (F6 : IntKind.u64.wrap ((q2 : Int) * (a : Int)) = (p2 : Int)) (F7 : IntKind.u64.wrap ((v : Int) - (p2 : Int)) = (r2 : Int))
    (R2 : D64.Rel v a b n q2 r2) (vY : Hid (v < a * 4294967296 + b)) (HQ2 : Hid (Q2 = (v * 4294967296 + n) / (a * 4294967296 + b)))
    (G1 : IntKind.u64.wrap ((Q : Int) * 4294967296) = (z1 : Int)) (G2 : IntKind.u64.wrap ((z1 : Int) + (Q2 : Int)) = (z2 : Int))
    (G3 : IntKind.u64.wrap ((v : Int) * 4294967296) = (j1 : Int)) (G4 : IntKind.u64.wrap ((j1 : Int) + (n : Int)) = (j2 : Int)) (G5 : IntKind.u64.wrap ((Q2 : Int) * (Y : Int)) = (j3 : Int)) (G6 : IntKind.u64.wrap ((j2 : Int) - (j3 : Int)) = (j4 : Int)) (G7 : (j4 : Int) / 2 ^ s = (rem : Int)) :
    Calls Tryd.prog 38 #[.int .u64 h, .int .u64 l, .int .u64 y] w fun e w' => e = .returned (.tuple #[.int .u64 (z2 : Int), .int .u64 (rem : Int)]) ∧ w = w' := by
  have a0 : a ≠ 0 := by omega
  have a3 : ((a : Int) == 0) = false := by simp; omega
  have a4 : (0 : Int) < (a : Int) := by omega
  have HR1 := hide R1
  have HR2 := hide R2
  clear R1 R2
  go_enter Tryd.func38, Tryd.ntmps38
  go_wp2_with fail
  refine LZ.mono ?_
  rintro e w' ⟨rfl, rfl⟩
  go_wp2
  go_loop [15, 16] (fun vq v16 => ∃ q r : Nat, vq = .int .u64 q ∧ v16 = .int .u64 r ∧ Hid (D64.Rel u a b m q r)) (fun vq _ => (intOf vq).toNat)
  case atStart => exact ⟨_, _, rfl, rfl, HR1.out⟩
  case round =>
    obtain ⟨q, r, rfl, rfl, hrel⟩ := hrel
    have bd := hrel.out.bounds b2 m2
    have q4 := hrel.out.2.2.1
    have r4 := hrel.out.2.2.2
    obtain ⟨x, hx⟩ : ∃ x : Nat, x = q * b := ⟨_, rfl⟩
    have W1 : IntKind.u64.wrap ((q : Int) * (b : Int)) = (x : Int) := by rw [IntKind.wrap_u64, hx, ← Int.natCast_mul]; rw [← hx] at bd ⊢; omega
    have W2 : IntKind.u64.wrap (4294967296 * (r : Int)) = ((4294967296 * r : Nat) : Int) := by rw [IntKind.wrap_u64]; omega
    obtain ⟨r', hr'⟩ : ∃ r' : Nat, r' = 4294967296 * r := ⟨_, rfl⟩
    rw [← hr'] at W2
    obtain ⟨tt, htt⟩ : ∃ tt : Nat, tt = r' + m := ⟨_, rfl⟩
    have W3 : IntKind.u64.wrap ((r' : Int) + (m : Int)) = (tt : Int) := by rw [IntKind.wrap_u64]; omega
    have W5 : IntKind.u64.wrap ((r : Int) + (a : Int)) = ((r + a : Nat) : Int) := by rw [IntKind.wrap_u64]; omega
    obtain ⟨ra, hra⟩ : ∃ ra : Nat, ra = r + a := ⟨_, rfl⟩
    rw [← hra] at W5
    have hc : (4294967296 ≤ q) ∨ (q < 4294967296 ∧ tt < x) ∨ (q < 4294967296 ∧ x ≤ tt) := by omega
    have HX := hide hx
    have HT := hide htt
    have HR' := hide hr'
    have HRA := hide hra
    have QI := q4
    clear bd hx htt hr' hra
    rcases hc with hc | ⟨hc, hc'⟩ | ⟨hc, hc'⟩
    · have dn := hrel.out.down (by omega) uY.out m2 a2 b2 (.inl hc)
      rw [← HRA.out] at dn
      obtain ⟨d1, d2, d3, d4⟩ := dn
      have W4 : IntKind.u64.wrap ((q : Int) - 1) = ((q - 1 : Nat) : Int) := by rw [IntKind.wrap_u64]; omega
      obtain ⟨qm, hqm⟩ : ∃ qm : Nat, qm = q - 1 := ⟨_, rfl⟩
      rw [← hqm] at W4 d3 d4
      have HQM := hide hqm
      have D3 := hide d3
      have D4 := hide d4
      have t1 : decide (4294967296 ≤ q) = true := by simp; omega
      have t1' : decide ((4294967296 : Int) ≤ (q : Int)) = true := by simp; omega
      have md : Hid (qm < q) := hide (by omega)
      clear hqm d3 d4 d1 d2 q4 r4
      rcases Nat.lt_or_ge ra 4294967296 with hb4 | hb4
      · have t3 : decide (4294967296 ≤ ra) = false := by simp; omega
        have t3' : decide ((4294967296 : Int) ≤ (ra : Int)) = false := by simp; omega
        go_wp2
        go_round
        case rel => exact ⟨qm, ra, rfl, rfl, D3.out hb4⟩
        case measure => have := md.out; simp [intOf]; omega
      · have t3 : decide (4294967296 ≤ ra) = true := by simp; omega
        have t3' : decide ((4294967296 : Int) ≤ (ra : Int)) = true := by simp; omega
        obtain rfl : qm = Q := (D4.out hb4).trans HQ.out.symm
        clear D3 D4
        go_wp2
        go_loop [18, 16] (fun vq v16 => ∃ q r : Nat, vq = .int .u64 q ∧ v16 = .int .u64 r ∧ Hid (D64.Rel v a b n q r)) (fun vq _ => (intOf vq).toNat)
        case atStart => exact ⟨_, _, rfl, rfl, HR2.out⟩
        case round =>
          obtain ⟨q, r, rfl, rfl, hrel⟩ := hrel
          have bd := hrel.out.bounds b2 n2
          have q4 := hrel.out.2.2.1
          have r4 := hrel.out.2.2.2
          obtain ⟨x, hx⟩ : ∃ x : Nat, x = q * b := ⟨_, rfl⟩
          have W1 : IntKind.u64.wrap ((q : Int) * (b : Int)) = (x : Int) := by rw [IntKind.wrap_u64, hx, ← Int.natCast_mul]; rw [← hx] at bd ⊢; omega
          have W2 : IntKind.u64.wrap (4294967296 * (r : Int)) = ((4294967296 * r : Nat) : Int) := by rw [IntKind.wrap_u64]; omega
          obtain ⟨r', hr'⟩ : ∃ r' : Nat, r' = 4294967296 * r := ⟨_, rfl⟩
          rw [← hr'] at W2
          obtain ⟨tt, htt⟩ : ∃ tt : Nat, tt = r' + n := ⟨_, rfl⟩
          have W3 : IntKind.u64.wrap ((r' : Int) + (n : Int)) = (tt : Int) := by rw [IntKind.wrap_u64]; omega
          have W5 : IntKind.u64.wrap ((r : Int) + (a : Int)) = ((r + a : Nat) : Int) := by rw [IntKind.wrap_u64]; omega
          obtain ⟨ra, hra⟩ : ∃ ra : Nat, ra = r + a := ⟨_, rfl⟩
          rw [← hra] at W5
          have hc : (4294967296 ≤ q) ∨ (q < 4294967296 ∧ tt < x) ∨ (q < 4294967296 ∧ x ≤ tt) := by omega
          have HX := hide hx
          have HT := hide htt
          have HR' := hide hr'
          have HRA := hide hra
          have QI := q4
          clear bd hx htt hr' hra
          rcases hc with hc | ⟨hc, hc'⟩ | ⟨hc, hc'⟩
          · have dn := hrel.out.down (by omega) vY.out n2 a2 b2 (.inl hc)
            rw [← HRA.out] at dn
            obtain ⟨d1, d2, d3, d4⟩ := dn
            have W4 : IntKind.u64.wrap ((q : Int) - 1) = ((q - 1 : Nat) : Int) := by rw [IntKind.wrap_u64]; omega
            obtain ⟨qm, hqm⟩ : ∃ qm : Nat, qm = q - 1 := ⟨_, rfl⟩
            rw [← hqm] at W4 d3 d4
            have HQM := hide hqm
            have D3 := hide d3
            have D4 := hide d4
            have t1 : decide (4294967296 ≤ q) = true := by simp; omega
            have t1' : decide ((4294967296 : Int) ≤ (q : Int)) = true := by simp; omega
            have md : Hid (qm < q) := hide (by omega)
            clear hqm d3 d4 d1 d2 q4 r4
            rcases Nat.lt_or_ge ra 4294967296 with hb4 | hb4
            · have t3 : decide (4294967296 ≤ ra) = false := by simp; omega
              have t3' : decide ((4294967296 : Int) ≤ (ra : Int)) = false := by simp; omega
              go_wp2
              go_round
              case rel => exact ⟨qm, ra, rfl, rfl, D3.out hb4⟩
              case measure => have := md.out; simp [intOf]; omega
            · have t3 : decide (4294967296 ≤ ra) = true := by simp; omega
              have t3' : decide ((4294967296 : Int) ≤ (ra : Int)) = true := by simp; omega
              obtain rfl : qm = Q2 := (D4.out hb4).trans HQ2.out.symm
              clear D3 D4
              go_wp2
              go_ret2
              exact ⟨rfl, rfl⟩
          · have dn := hrel.out.down (by omega) vY.out n2 a2 b2 (.inr (by rw [← HX.out, ← HR'.out, ← HT.out]; exact hc'))
            rw [← HRA.out] at dn
            obtain ⟨d1, d2, d3, d4⟩ := dn
            have W4 : IntKind.u64.wrap ((q : Int) - 1) = ((q - 1 : Nat) : Int) := by rw [IntKind.wrap_u64]; omega
            obtain ⟨qm, hqm⟩ : ∃ qm : Nat, qm = q - 1 := ⟨_, rfl⟩
            rw [← hqm] at W4 d3 d4
            have HQM := hide hqm
            have D3 := hide d3
            have D4 := hide d4
            have t1 : decide (4294967296 ≤ q) = false := by simp; omega
            have t1' : decide ((4294967296 : Int) ≤ (q : Int)) = false := by simp; omega
            have t2 : decide (tt < x) = true := by simp; omega
            have md : Hid (qm < q) := hide (by omega)
            clear hqm d3 d4 d1 d2 q4 r4
            rcases Nat.lt_or_ge ra 4294967296 with hb4 | hb4
            · have t3 : decide (4294967296 ≤ ra) = false := by simp; omega
              have t3' : decide ((4294967296 : Int) ≤ (ra : Int)) = false := by simp; omega
              go_wp2
              go_round
              case rel => exact ⟨qm, ra, rfl, rfl, D3.out hb4⟩
              case measure => have := md.out; simp [intOf]; omega
            · have t3 : decide (4294967296 ≤ ra) = true := by simp; omega
              have t3' : decide ((4294967296 : Int) ≤ (ra : Int)) = true := by simp; omega
              obtain rfl : qm = Q2 := (D4.out hb4).trans HQ2.out.symm
              clear D3 D4
              go_wp2
              go_ret2
              exact ⟨rfl, rfl⟩
          · have dn := hide (hrel.out.done (by omega) (by rw [← HX.out, ← HR'.out, ← HT.out]; omega))
            have t1 : decide (4294967296 ≤ q) = false := by simp; omega
            have t1' : decide ((4294967296 : Int) ≤ (q : Int)) = false := by simp; omega
            have t2 : decide (tt < x) = false := by simp; omega
            obtain rfl : q = Q2 := dn.out.trans HQ2.out.symm
            clear q4 r4
            go_wp2
            go_ret2
            exact ⟨rfl, rfl⟩
    · have dn := hrel.out.down (by omega) uY.out m2 a2 b2 (.inr (by rw [← HX.out, ← HR'.out, ← HT.out]; exact hc'))
      rw [← HRA.out] at dn
      obtain ⟨d1, d2, d3, d4⟩ := dn
      have W4 : IntKind.u64.wrap ((q : Int) - 1) = ((q - 1 : Nat) : Int) := by rw [IntKind.wrap_u64]; omega
      obtain ⟨qm, hqm⟩ : ∃ qm : Nat, qm = q - 1 := ⟨_, rfl⟩
      rw [← hqm] at W4 d3 d4
      have HQM := hide hqm
      have D3 := hide d3
      have D4 := hide d4
      have t1 : decide (4294967296 ≤ q) = false := by simp; omega
      have t1' : decide ((4294967296 : Int) ≤ (q : Int)) = false := by simp; omega
      have t2 : decide (tt < x) = true := by simp; omega
      have md : Hid (qm < q) := hide (by omega)
      clear hqm d3 d4 d1 d2 q4 r4
      rcases Nat.lt_or_ge ra 4294967296 with hb4 | hb4
      · have t3 : decide (4294967296 ≤ ra) = false := by simp; omega
        have t3' : decide ((4294967296 : Int) ≤ (ra : Int)) = false := by simp; omega
        go_wp2
        go_round
        case rel => exact ⟨qm, ra, rfl, rfl, D3.out hb4⟩
        case measure => have := md.out; simp [intOf]; omega
      · have t3 : decide (4294967296 ≤ ra) = true := by simp; omega
        have t3' : decide ((4294967296 : Int) ≤ (ra : Int)) = true := by simp; omega
        obtain rfl : qm = Q := (D4.out hb4).trans HQ.out.symm
        clear D3 D4
        go_wp2
        go_loop [18, 16] (fun vq v16 => ∃ q r : Nat, vq = .int .u64 q ∧ v16 = .int .u64 r ∧ Hid (D64.Rel v a b n q r)) (fun vq _ => (intOf vq).toNat)
        case atStart => exact ⟨_, _, rfl, rfl, HR2.out⟩
        case round =>
          obtain ⟨q, r, rfl, rfl, hrel⟩ := hrel
          have bd := hrel.out.bounds b2 n2
          have q4 := hrel.out.2.2.1
          have r4 := hrel.out.2.2.2
          obtain ⟨x, hx⟩ : ∃ x : Nat, x = q * b := ⟨_, rfl⟩
          have W1 : IntKind.u64.wrap ((q : Int) * (b : Int)) = (x : Int) := by rw [IntKind.wrap_u64, hx, ← Int.natCast_mul]; rw [← hx] at bd ⊢; omega
          have W2 : IntKind.u64.wrap (4294967296 * (r : Int)) = ((4294967296 * r : Nat) : Int) := by rw [IntKind.wrap_u64]; omega
          obtain ⟨r', hr'⟩ : ∃ r' : Nat, r' = 4294967296 * r := ⟨_, rfl⟩
          rw [← hr'] at W2
          obtain ⟨tt, htt⟩ : ∃ tt : Nat, tt = r' + n := ⟨_, rfl⟩
          have W3 : IntKind.u64.wrap ((r' : Int) + (n : Int)) = (tt : Int) := by rw [IntKind.wrap_u64]; omega
          have W5 : IntKind.u64.wrap ((r : Int) + (a : Int)) = ((r + a : Nat) : Int) := by rw [IntKind.wrap_u64]; omega
          obtain ⟨ra, hra⟩ : ∃ ra : Nat, ra = r + a := ⟨_, rfl⟩
          rw [← hra] at W5
          have hc : (4294967296 ≤ q) ∨ (q < 4294967296 ∧ tt < x) ∨ (q < 4294967296 ∧ x ≤ tt) := by omega
          have HX := hide hx
          have HT := hide htt
          have HR' := hide hr'
          have HRA := hide hra
          have QI := q4
          clear bd hx htt hr' hra
          rcases hc with hc | ⟨hc, hc'⟩ | ⟨hc, hc'⟩
          · have dn := hrel.out.down (by omega) vY.out n2 a2 b2 (.inl hc)
            rw [← HRA.out] at dn
            obtain ⟨d1, d2, d3, d4⟩ := dn
            have W4 : IntKind.u64.wrap ((q : Int) - 1) = ((q - 1 : Nat) : Int) := by rw [IntKind.wrap_u64]; omega
            obtain ⟨qm, hqm⟩ : ∃ qm : Nat, qm = q - 1 := ⟨_, rfl⟩
            rw [← hqm] at W4 d3 d4
            have HQM := hide hqm
            have D3 := hide d3
            have D4 := hide d4
            have t1 : decide (4294967296 ≤ q) = true := by simp; omega
            have t1' : decide ((4294967296 : Int) ≤ (q : Int)) = true := by simp; omega
            have md : Hid (qm < q) := hide (by omega)
            clear hqm d3 d4 d1 d2 q4 r4
            rcases Nat.lt_or_ge ra 4294967296 with hb4 | hb4
            · have t3 : decide (4294967296 ≤ ra) = false := by simp; omega
              have t3' : decide ((4294967296 : Int) ≤ (ra : Int)) = false := by simp; omega
              go_wp2
              go_round
              case rel => exact ⟨qm, ra, rfl, rfl, D3.out hb4⟩
              case measure => have := md.out; simp [intOf]; omega
            · have t3 : decide (4294967296 ≤ ra) = true := by simp; omega
              have t3' : decide ((4294967296 : Int) ≤ (ra : Int)) = true := by simp; omega
              obtain rfl : qm = Q2 := (D4.out hb4).trans HQ2.out.symm
              clear D3 D4
              go_wp2
              go_ret2
              exact ⟨rfl, rfl⟩
          · have dn := hrel.out.down (by omega) vY.out n2 a2 b2 (.inr (by rw [← HX.out, ← HR'.out, ← HT.out]; exact hc'))
            rw [← HRA.out] at dn
            obtain ⟨d1, d2, d3, d4⟩ := dn
            have W4 : IntKind.u64.wrap ((q : Int) - 1) = ((q - 1 : Nat) : Int) := by rw [IntKind.wrap_u64]; omega
            obtain ⟨qm, hqm⟩ : ∃ qm : Nat, qm = q - 1 := ⟨_, rfl⟩
            rw [← hqm] at W4 d3 d4
            have HQM := hide hqm
            have D3 := hide d3
            have D4 := hide d4
            have t1 : decide (4294967296 ≤ q) = false := by simp; omega
            have t1' : decide ((4294967296 : Int) ≤ (q : Int)) = false := by simp; omega
            have t2 : decide (tt < x) = true := by simp; omega
            have md : Hid (qm < q) := hide (by omega)
            clear hqm d3 d4 d1 d2 q4 r4
            rcases Nat.lt_or_ge ra 4294967296 with hb4 | hb4
            · have t3 : decide (4294967296 ≤ ra) = false := by simp; omega
              have t3' : decide ((4294967296 : Int) ≤ (ra : Int)) = false := by simp; omega
              go_wp2
              go_round
              case rel => exact ⟨qm, ra, rfl, rfl, D3.out hb4⟩
              case measure => have := md.out; simp [intOf]; omega
            · have t3 : decide (4294967296 ≤ ra) = true := by simp; omega
              have t3' : decide ((4294967296 : Int) ≤ (ra : Int)) = true := by simp; omega
              obtain rfl : qm = Q2 := (D4.out hb4).trans HQ2.out.symm
              clear D3 D4
              go_wp2
              go_ret2
              exact ⟨rfl, rfl⟩
          · have dn := hide (hrel.out.done (by omega) (by rw [← HX.out, ← HR'.out, ← HT.out]; omega))
            have t1 : decide (4294967296 ≤ q) = false := by simp; omega
            have t1' : decide ((4294967296 : Int) ≤ (q : Int)) = false := by simp; omega
            have t2 : decide (tt < x) = false := by simp; omega
            obtain rfl : q = Q2 := dn.out.trans HQ2.out.symm
            clear q4 r4
            go_wp2
            go_ret2
            exact ⟨rfl, rfl⟩
    · have dn := hide (hrel.out.done (by omega) (by rw [← HX.out, ← HR'.out, ← HT.out]; omega))
      have t1 : decide (4294967296 ≤ q) = false := by simp; omega
      have t1' : decide ((4294967296 : Int) ≤ (q : Int)) = false := by simp; omega
      have t2 : decide (tt < x) = false := by simp; omega
      obtain rfl : q = Q := dn.out.trans HQ.out.symm
      clear q4 r4
      go_wp2
      go_loop [18, 16] (fun vq v16 => ∃ q r : Nat, vq = .int .u64 q ∧ v16 = .int .u64 r ∧ Hid (D64.Rel v a b n q r)) (fun vq _ => (intOf vq).toNat)
      case atStart => exact ⟨_, _, rfl, rfl, HR2.out⟩
      case round =>
        obtain ⟨q, r, rfl, rfl, hrel⟩ := hrel
        have bd := hrel.out.bounds b2 n2
        have q4 := hrel.out.2.2.1
        have r4 := hrel.out.2.2.2
        obtain ⟨x, hx⟩ : ∃ x : Nat, x = q * b := ⟨_, rfl⟩
        have W1 : IntKind.u64.wrap ((q : Int) * (b : Int)) = (x : Int) := by rw [IntKind.wrap_u64, hx, ← Int.natCast_mul]; rw [← hx] at bd ⊢; omega
        have W2 : IntKind.u64.wrap (4294967296 * (r : Int)) = ((4294967296 * r : Nat) : Int) := by rw [IntKind.wrap_u64]; omega
        obtain ⟨r', hr'⟩ : ∃ r' : Nat, r' = 4294967296 * r := ⟨_, rfl⟩
        rw [← hr'] at W2
        obtain ⟨tt, htt⟩ : ∃ tt : Nat, tt = r' + n := ⟨_, rfl⟩
        have W3 : IntKind.u64.wrap ((r' : Int) + (n : Int)) = (tt : Int) := by rw [IntKind.wrap_u64]; omega
        have W5 : IntKind.u64.wrap ((r : Int) + (a : Int)) = ((r + a : Nat) : Int) := by rw [IntKind.wrap_u64]; omega
        obtain ⟨ra, hra⟩ : ∃ ra : Nat, ra = r + a := ⟨_, rfl⟩
        rw [← hra] at W5
        have hc : (4294967296 ≤ q) ∨ (q < 4294967296 ∧ tt < x) ∨ (q < 4294967296 ∧ x ≤ tt) := by omega
        have HX := hide hx
        have HT := hide htt
        have HR' := hide hr'
        have HRA := hide hra
        have QI := q4
        clear bd hx htt hr' hra
        rcases hc with hc | ⟨hc, hc'⟩ | ⟨hc, hc'⟩
        · have dn := hrel.out.down (by omega) vY.out n2 a2 b2 (.inl hc)
          rw [← HRA.out] at dn
          obtain ⟨d1, d2, d3, d4⟩ := dn
          have W4 : IntKind.u64.wrap ((q : Int) - 1) = ((q - 1 : Nat) : Int) := by rw [IntKind.wrap_u64]; omega
          obtain ⟨qm, hqm⟩ : ∃ qm : Nat, qm = q - 1 := ⟨_, rfl⟩
          rw [← hqm] at W4 d3 d4
          have HQM := hide hqm
          have D3 := hide d3
          have D4 := hide d4
          have t1 : decide (4294967296 ≤ q) = true := by simp; omega
          have t1' : decide ((4294967296 : Int) ≤ (q : Int)) = true := by simp; omega
          have md : Hid (qm < q) := hide (by omega)
          clear hqm d3 d4 d1 d2 q4 r4
          rcases Nat.lt_or_ge ra 4294967296 with hb4 | hb4
          · have t3 : decide (4294967296 ≤ ra) = false := by simp; omega
            have t3' : decide ((4294967296 : Int) ≤ (ra : Int)) = false := by simp; omega
            go_wp2
            go_round
            case rel => exact ⟨qm, ra, rfl, rfl, D3.out hb4⟩
            case measure => have := md.out; simp [intOf]; omega
          · have t3 : decide (4294967296 ≤ ra) = true := by simp; omega
            have t3' : decide ((4294967296 : Int) ≤ (ra : Int)) = true := by simp; omega
            obtain rfl : qm = Q2 := (D4.out hb4).trans HQ2.out.symm
            clear D3 D4
            go_wp2
            go_ret2
            exact ⟨rfl, rfl⟩
        · have dn := hrel.out.down (by omega) vY.out n2 a2 b2 (.inr (by rw [← HX.out, ← HR'.out, ← HT.out]; exact hc'))
          rw [← HRA.out] at dn
          obtain ⟨d1, d2, d3, d4⟩ := dn
          have W4 : IntKind.u64.wrap ((q : Int) - 1) = ((q - 1 : Nat) : Int) := by rw [IntKind.wrap_u64]; omega
          obtain ⟨qm, hqm⟩ : ∃ qm : Nat, qm = q - 1 := ⟨_, rfl⟩
          rw [← hqm] at W4 d3 d4
          have HQM := hide hqm
          have D3 := hide d3
          have D4 := hide d4
          have t1 : decide (4294967296 ≤ q) = false := by simp; omega
          have t1' : decide ((4294967296 : Int) ≤ (q : Int)) = false := by simp; omega
          have t2 : decide (tt < x) = true := by simp; omega
          have md : Hid (qm < q) := hide (by omega)
          clear hqm d3 d4 d1 d2 q4 r4
          rcases Nat.lt_or_ge ra 4294967296 with hb4 | hb4
          · have t3 : decide (4294967296 ≤ ra) = false := by simp; omega
            have t3' : decide ((4294967296 : Int) ≤ (ra : Int)) = false := by simp; omega
            go_wp2
            go_round
            case rel => exact ⟨qm, ra, rfl, rfl, D3.out hb4⟩
            case measure => have := md.out; simp [intOf]; omega
          · have t3 : decide (4294967296 ≤ ra) = true := by simp; omega
            have t3' : decide ((4294967296 : Int) ≤ (ra : Int)) = true := by simp; omega
            obtain rfl : qm = Q2 := (D4.out hb4).trans HQ2.out.symm
            clear D3 D4
            go_wp2
            go_ret2
            exact ⟨rfl, rfl⟩
        · have dn := hide (hrel.out.done (by omega) (by rw [← HX.out, ← HR'.out, ← HT.out]; omega))
          have t1 : decide (4294967296 ≤ q) = false := by simp; omega
          have t1' : decide ((4294967296 : Int) ≤ (q : Int)) = false := by simp; omega
          have t2 : decide (tt < x) = false := by simp; omega
          obtain rfl : q = Q2 := dn.out.trans HQ2.out.symm
          clear q4 r4
          go_wp2
          go_ret2
          exact ⟨rfl, rfl⟩
end Go.Proofs.YtbmocghfpcfmhaaDoor

namespace Go.Proofs.YtbmocghfpcfmhaaDoor
open Go.RowKit

theorem u64_nat {x : Nat} (h : x < 18446744073709551616) : IntKind.u64.wrap (x : Int) = (x : Int) := by rw [IntKind.wrap_u64]; omega
theorem u64_mod (x : Nat) : IntKind.u64.wrap (x : Int) = ((x % 18446744073709551616 : Nat) : Int) := by rw [IntKind.wrap_u64]; omega
theorem u64_and32 {x : Nat} (h : x < 18446744073709551616) : bits .and .u64 (x : Int) 4294967295 = ((x % 4294967296 : Nat) : Int) := by
  have e : x &&& 4294967295 = x % 4294967296 := Nat.and_two_pow_sub_one_eq_mod x 32
  have := bits_and_u64_nat x 4294967295 h (by omega)
  rw [e] at this
  exact this
theorem u64_or_nat {x y z : Nat} (h : x ||| y = z) (hx : x < 18446744073709551616) (hy : y < 18446744073709551616) : bits .or .u64 (x : Int) (y : Int) = (z : Int) := by
  have hz : x ||| y < 2 ^ 64 := Nat.or_lt_two_pow (by omega) (by omega)
  rw [← h]
  show IntKind.u64.wrap ((BitVec.ofInt 64 (x : Int) ||| BitVec.ofInt 64 (y : Int)).toNat : Int) = _
  rw [BitVec.toNat_or, BitVec.ofInt_natCast, BitVec.ofInt_natCast, BitVec.toNat_ofNat, BitVec.toNat_ofNat, Nat.mod_eq_of_lt (by omega), Nat.mod_eq_of_lt (by omega)]
  exact u64_nat (by omega)
theorem cast_pow (x p : Nat) : (x : Int) * 2 ^ p = ((x * 2 ^ p : Nat) : Int) := by rw [Int.natCast_mul, Int.natCast_pow]; rfl
theorem cast_div_pow (x p : Nat) : (x : Int) / 2 ^ p = ((x / 2 ^ p : Nat) : Int) := by rw [Int.natCast_ediv, Int.natCast_pow]; rfl
theorem u64_sub {x y z : Nat} (h : ((x : Int) - (y : Int)) % 18446744073709551616 = (z : Int)) (x' y' : Nat) (hx : x' = x % 18446744073709551616) (hy : y' = y % 18446744073709551616) : IntKind.u64.wrap ((x' : Int) - (y' : Int)) = (z : Int) := by
  rw [IntKind.wrap_u64, hx, hy]; omega
theorem e_div {x a q : Nat} (h : q = x / a) : (x : Int) / (a : Int) = (q : Int) := by rw [h, Int.natCast_ediv]
theorem e_mul {x y z : Nat} (h : z = x * y % 18446744073709551616) : IntKind.u64.wrap ((x : Int) * (y : Int)) = (z : Int) := by rw [← Int.natCast_mul, u64_mod, h]
theorem e_mul32 {x z : Nat} (h : z = x * 4294967296 % 18446744073709551616) : IntKind.u64.wrap ((x : Int) * 4294967296) = (z : Int) := by
  rw [h]; exact e_mul (y := 4294967296) rfl
theorem e_add {x y z : Nat} (h : z = (x + y) % 18446744073709551616) : IntKind.u64.wrap ((x : Int) + (y : Int)) = (z : Int) := by rw [← Int.natCast_add, u64_mod, h]
theorem e_sub {x y z : Nat} (hy : y ≤ x) (h : z = x - y) (hz : x < 18446744073709551616) : IntKind.u64.wrap ((x : Int) - (y : Int)) = (z : Int) := by
  rw [IntKind.wrap_u64, h]; omega
theorem e_join (u V : Nat) : (u * 4294967296 + V / 4294967296) * 4294967296 + V % 4294967296 = u * 18446744073709551616 + V := by omega
theorem e_rest {x y z k k3 : Nat} (h : ((x : Int) - (y : Int)) % 18446744073709551616 = (z : Int)) (h1 : k = x % 18446744073709551616) (h2 : k3 = y % 18446744073709551616) : IntKind.u64.wrap ((k : Int) - (k3 : Int)) = (z : Int) := u64_sub h k k3 h1 h2
theorem e_two {x n k k2 : Nat} (h1 : k = x * 4294967296 % 18446744073709551616) (h2 : k2 = (x * 4294967296 + n) % 18446744073709551616) : k2 = (k + n) % 18446744073709551616 := by rw [h1, h2]; omega
theorem lt64 {q : Nat} (h : q ≤ 4294967297) : q < 18446744073709551616 := by omega
theorem q_lt {Q Q2 : Nat} (h : Q < 4294967296) (h' : Q2 < 4294967296) : Q * 4294967296 + Q2 < 18446744073709551616 ∧ Q * 4294967296 < 18446744073709551616 := by omega
theorem mod_self' {x : Nat} (h : x < 18446744073709551616) : x = x % 18446744073709551616 := (Nat.mod_eq_of_lt h).symm
theorem mul_le_of {q a u r : Nat} (h : q * a + r = u) (hu : u < 18446744073709551616) : q * a < 18446744073709551616 ∧ q * a ≤ u ∧ r = u - q * a := by omega
theorem half_bd {Y : Nat} (h1 : 9223372036854775808 ≤ Y) (h2 : Y < 18446744073709551616) : 2147483648 ≤ Y / 4294967296 ∧ Y / 4294967296 < 4294967296 ∧ Y / 4294967296 * 4294967296 + Y % 4294967296 = Y := by omega
theorem half_lt {V : Nat} (h : V < 18446744073709551616) : V / 4294967296 < 4294967296 := by omega
theorem div64_inst (h l y s s' Y H L u V a b m n v Q Q2 w4 : Nat) (g5 : decide (y ≤ h) = false) (g3 : ((y : Int) == 0) = false) (g4 : ((h : Int) == 0) = false) (w : World)
    (LZ : Calls Tryd.prog 63 #[.int .u64 (y : Int)] w fun e w' => e = .returned (.int .i64 (s : Int)) ∧ w' = w)
    (s1 : s < 64) (E1 : IntKind.u64.wrap (s : Int) = (s : Int)) (E2 : min s 64 = s) (E3 : IntKind.u64.wrap ((y : Int) * 2 ^ s) = (Y : Int)) (ha : a = Y / 4294967296) (hb : b = Y % 4294967296)
    (E6 : IntKind.u64.wrap ((h : Int) * 2 ^ s) = (H : Int)) (E7 : IntKind.u64.wrap (64 - (s : Int)) = (s' : Int)) (E8 : min s' 64 = s') (E9 : (l : Int) / 2 ^ s' = (L : Int)) (E10 : bits .or .u64 (H : Int) (L : Int) = (u : Int))
    (E11 : IntKind.u64.wrap ((l : Int) * 2 ^ s) = (V : Int)) (hm : m = V / 4294967296) (hn : n = V % 4294967296)
    (a1 : 2147483648 ≤ a) (a2 : a < 4294967296) (b2 : b < 4294967296) (m2 : m < 4294967296) (n2 : n < 4294967296) (eY : a * 4294967296 + b = Y) (Y2 : Y < 18446744073709551616) (V2 : V < 18446744073709551616)
    (uY : u < Y) (hQ : Q = (u * 4294967296 + m) / Y) (hv : v = (u * 4294967296 + m) % Y) (hQ2 : Q2 = (v * 4294967296 + n) / Y) (hw : w4 = (v * 4294967296 + n) % Y) :
    Calls Tryd.prog 38 #[.int .u64 h, .int .u64 l, .int .u64 y] w fun e w' => e = .returned (.tuple #[.int .u64 ((Q * 4294967296 + Q2 : Nat) : Int), .int .u64 ((w4 / 2 ^ s : Nat) : Int)]) ∧ w = w' := by
  have Y0 : 0 < Y := by omega
  have vY : v < Y := by rw [hv]; exact Nat.mod_lt _ Y0
  have S1 := D64.start a1 b2 (by rw [eY]; exact uY)
  have S2 := D64.start (u := v) a1 b2 (by rw [eY]; exact vY)
  have T1 := D64.start_ge (u := u) (a := a) (b := b) (n := m) (by omega) m2
  have T2 := D64.start_ge (u := v) (a := a) (b := b) (n := n) (by omega) n2
  have Q1 : Q < 4294967296 := by rw [hQ]; exact D64.quo_small uY m2
  have Q22 : Q2 < 4294967296 := by rw [hQ2]; exact D64.quo_small vY n2
  have RW1 := D64.rest_word Y0 Y2 hQ
  have RW2 := D64.rest_word Y0 Y2 hQ2
  rw [← hv] at RW1
  rw [← hw] at RW2
  have u2 : u < 18446744073709551616 := by omega
  have v3 : v < 18446744073709551616 := by omega
  have M1 := mul_le_of S1.1 u2
  have M2 := mul_le_of S2.1 v3
  have QL := q_lt Q1 Q22
  obtain ⟨q0, hq0⟩ : ∃ q0, q0 = u / a := ⟨_, rfl⟩
  obtain ⟨r0, hr0⟩ : ∃ r0, r0 = u % a := ⟨_, rfl⟩
  obtain ⟨q2, hq2⟩ : ∃ q2, q2 = v / a := ⟨_, rfl⟩
  obtain ⟨r2, hr2⟩ : ∃ r2, r2 = v % a := ⟨_, rfl⟩
  rw [← hq0, ← hr0] at S1
  rw [← hq2, ← hr2] at S2
  rw [← hq0] at T1
  rw [← hq2] at T2
  rw [← hq0, ← hr0] at M1
  rw [← hq2, ← hr2] at M2
  have LTQ0 := lt64 S1.2.1
  have LTQ2 := lt64 S2.2.1
  obtain ⟨k1, hk1⟩ : ∃ k1, k1 = u * 4294967296 % 18446744073709551616 := ⟨_, rfl⟩
  obtain ⟨k2, hk2⟩ : ∃ k2, k2 = (u * 4294967296 + m) % 18446744073709551616 := ⟨_, rfl⟩
  obtain ⟨k3, hk3⟩ : ∃ k3, k3 = Q * Y % 18446744073709551616 := ⟨_, rfl⟩
  obtain ⟨j1, hj1⟩ : ∃ j1, j1 = v * 4294967296 % 18446744073709551616 := ⟨_, rfl⟩
  obtain ⟨j2, hj2⟩ : ∃ j2, j2 = (v * 4294967296 + n) % 18446744073709551616 := ⟨_, rfl⟩
  obtain ⟨j3, hj3⟩ : ∃ j3, j3 = Q2 * Y % 18446744073709551616 := ⟨_, rfl⟩
  exact div64_core h l y s s' Y a b H L u V m n q0 (q0 * a) r0 k1 k2 k3 v q2 (q2 * a) r2 (Q * 4294967296) (Q * 4294967296 + Q2) j1 j2 j3 w4 (w4 / 2 ^ s) Q Q2 g5 g3 g4 w LZ s1 E1 E2 E3
    (e_div (a := 4294967296) ha) (by rw [hb]; exact u64_and32 Y2) E6 E7 E8 E9 E10 E11 (e_div (a := 4294967296) hm) (by rw [hn]; exact u64_and32 V2) a1 a2 b2 m2 n2
    (e_div hq0) (u64_nat LTQ0) (e_mul (mod_self' M1.1)) (e_sub M1.2.1 M1.2.2 u2) ⟨S1.1, T1, S1.2.1, Nat.lt_trans S1.2.2 a2⟩ (hide (by rw [eY]; exact uY)) (hide (by rw [eY]; exact hQ))
    (e_mul32 hk1) (e_add (e_two hk1 hk2)) (e_mul hk3) (e_rest RW1 hk2 hk3) (e_div hq2) (u64_nat LTQ2) (e_mul (mod_self' M2.1)) (e_sub M2.2.1 M2.2.2 v3) ⟨S2.1, T2, S2.2.1, Nat.lt_trans S2.2.2 a2⟩ (hide (by rw [eY]; exact vY)) (hide (by rw [eY]; exact hQ2))
    (e_mul32 (mod_self' QL.2)) (e_add (mod_self' QL.1)) (e_mul32 hj1) (e_add (e_two hj1 hj2)) (e_mul hj3) (e_rest RW2 hj2 hj3) (cast_div_pow _ _)
theorem div64_pos (h l y : Nat) (h0 : 0 < h) (hh : h < y) (hl : l < 18446744073709551616) (hy : y < 18446744073709551616) (w : World) :
    Calls Tryd.prog 38 #[.int .u64 h, .int .u64 l, .int .u64 y] w fun e w' => e = .returned (.tuple #[.int .u64 (((h * 18446744073709551616 + l) / y : Nat) : Int), .int .u64 (((h * 18446744073709551616 + l) % y : Nat) : Int)]) ∧ w = w' := by
  obtain ⟨c1, b1, b2⟩ := bitLen_bd 64 y hy (Nat.le_refl _) (by omega)
  have c2 : Lib.bitLen y ≤ 64 := Lib.bitLen_le y 64 (Nat.le_refl _) hy
  have LZ := Tryd.bits_LeadingZeros64 (y : Int) w (by omega) (by omega)
  simp only [Int.toNat_natCast] at LZ
  generalize Lib.bitLen y = c at *
  obtain ⟨g1, g2, g3, g4, g5, g6⟩ := D64.shift_parts c1 c2 b1 b2 hh hl
  have LZ' : Calls Tryd.prog 63 #[.int .u64 (y : Int)] w fun e w' => e = .returned (.int .i64 ((64 - c : Nat) : Int)) ∧ w' = w := by
    have e : (64 : Int) - (c : Int) = ((64 - c : Nat) : Int) := by omega
    rw [e] at LZ
    exact LZ
  have hP : 0 < 2 ^ (64 - c) := Nat.two_pow_pos _
  have hL : l / 2 ^ c < 18446744073709551616 := Nat.lt_of_le_of_lt (Nat.div_le_self _ _) hl
  have shv := @D64.shift_div (h * 18446744073709551616 + l) y (2 ^ (64 - c)) hP
  have E3 : IntKind.u64.wrap ((y : Int) * 2 ^ (64 - c)) = ((y * 2 ^ (64 - c) : Nat) : Int) := by rw [cast_pow]; exact u64_nat g2
  have E6 : IntKind.u64.wrap ((h : Int) * 2 ^ (64 - c)) = ((h * 2 ^ (64 - c) : Nat) : Int) := by rw [cast_pow]; exact u64_nat g3
  have E11 : IntKind.u64.wrap ((l : Int) * 2 ^ (64 - c)) = ((l * 2 ^ (64 - c) % 18446744073709551616 : Nat) : Int) := by rw [cast_pow]; exact u64_mod _
  have E10 := u64_or_nat g4 g3 hL
  have V2 : l * 2 ^ (64 - c) % 18446744073709551616 < 18446744073709551616 := Nat.mod_lt _ (by decide)
  rw [← g5] at shv
  have g6' := g6
  obtain ⟨Y, hY⟩ : ∃ Y, Y = y * 2 ^ (64 - c) := ⟨_, rfl⟩
  obtain ⟨u, hu⟩ : ∃ u, u = h * 2 ^ (64 - c) + l / 2 ^ c := ⟨_, rfl⟩
  obtain ⟨V, hV⟩ : ∃ V, V = l * 2 ^ (64 - c) % 18446744073709551616 := ⟨_, rfl⟩
  rw [← hY] at E3 g1 g2 g6
  rw [← hu] at g6 E10
  rw [← hV] at E11 V2
  rw [← hY, ← hu, ← hV] at shv
  obtain ⟨v, hv⟩ : ∃ v, v = (u * 4294967296 + V / 4294967296) % Y := ⟨_, rfl⟩
  have Y0 : 0 < Y := Nat.lt_of_lt_of_le (by decide) g1
  have TS := D64.two_steps (N := u * 4294967296 + V / 4294967296) (n := V % 4294967296) Y0
  rw [e_join, ← hv] at TS
  rw [← shv.1, ← shv.2, TS.1, TS.2]
  obtain ⟨A1, A2, A3⟩ := half_bd g1 g2
  have A4 := half_lt V2
  exact div64_inst h l y (64 - c) c Y _ _ u V _ _ _ _ v _ _ _ (by simp; omega) (by simp; omega) (by simp; omega) w LZ' (by omega) (u64_nat (by omega)) (by omega) E3 rfl rfl E6 (by rw [IntKind.wrap_u64]; omega) (by omega) (cast_div_pow _ _) E10 E11 rfl rfl A1 A2 (Nat.mod_lt _ (by decide)) A4 (Nat.mod_lt _ (by decide)) A3 g2 V2 g6 rfl hv rfl rfl
/-- Div64, wherever the high word is below the divisor -/
theorem div64_any (h l y : Nat) (hh : h < y) (hl : l < 18446744073709551616) (hy : y < 18446744073709551616) (w : World) :
    Calls Tryd.prog 38 #[.int .u64 h, .int .u64 l, .int .u64 y] w fun e w' => e = .returned (.tuple #[.int .u64 (((h * 18446744073709551616 + l) / y : Nat) : Int), .int .u64 (((h * 18446744073709551616 + l) % y : Nat) : Int)]) ∧ ∃ n, w' = w.drewN n := by
  rcases Nat.eq_zero_or_pos h with h0 | h0
  · subst h0
    simp only [Nat.zero_mul, Nat.zero_add]
    exact div64_low l y hl (by omega) hy w
  · exact (div64_pos h l y h0 hh hl hy w).mono fun _ _ ⟨e, hw⟩ => ⟨e, 0, by rw [← hw]; rfl⟩
end Go.Proofs.YtbmocghfpcfmhaaDoor

namespace Go.Proofs.YtbmocghfpcfmhaaDoor
open Go.RowKit

abbrev HW (v : Nat) : Int := ((v / 18446744073709551616 : Nat) : Int)
abbrev LW (v : Nat) : Int := ((v % 18446744073709551616 : Nat) : Int)
abbrev Nv (v : Nat) : Value := .agg #[.int .u64 ((v / 18446744073709551616 : Nat) : Int), .int .u64 ((v % 18446744073709551616 : Nat) : Int), .bool false]
abbrev Wv (v : Nat) : Value := .agg #[.int .i64 ((v / 1152921504606846976 : Nat) : Int), .int .i64 ((v % 1152921504606846976 : Nat) : Int)]
theorem Own.drewN' {w W : World} {L : List (Nat × TypeId × Array Value)} (h : Own w W L) (n : Nat) : Own w (W.drewN n) L := ⟨⟨h.1.os, h.1.tape, h.1.output, h.1.size, h.1.block⟩, fun x hx => (h.2 x hx).drewN n⟩
theorem below_dnW {B : Nat} {a w : World} (h : Below B a w) (n : Nat) : Below B a (w.drewN n) := ⟨h.os, h.tape, h.output, h.size, h.block⟩
set_option maxHeartbeats 400000 in
theorem wdsize_any (n : Nat) (w : World) (h : n ≤ 9223372036854775807) :
    Calls Tryd.prog 26 #[.int .i64 (n : Int)] w fun e w' => e = .returned (.int .u64 (n : Int)) ∧ w = w' := by
  go_enter Tryd.func26, Tryd.ntmps26
  go_wp2
  go_ret
  exact ⟨ret_int rfl, rfl⟩
set_option maxHeartbeats 400000 in
theorem wdsigned_any (h l : Int) (w : World) :
    Calls Tryd.prog 25 #[.int .u64 h, .int .u64 l, .bool false] w fun e w' => e = .returned (.agg #[.int .u64 h, .int .u64 l, .bool false]) ∧ Below w.heap.size w w' := by
  go_enter Tryd.func25, Tryd.ntmps25
  go_wp2
  refine bodyPost_ret (v := .agg #[.int .u64 h, .int .u64 l, .bool false]) (by simp [results, Tryd.results25, go_sem]) rfl ⟨rfl, by go_grown⟩
set_option maxHeartbeats 400000 in
theorem wdtimes_any (a b : Nat) (w : World) (h1 : a ≤ 9223372036854775807) (h2 : b ≤ 9223372036854775807) :
    Calls Tryd.prog 19 #[.int .i64 (a : Int), .int .i64 (b : Int)] w fun e w' => e = .returned (Nv (a * b)) ∧ Below w.heap.size w w' := by
  have X := (Own.start w).alloc #[.int .u64 0, .int .u64 0, .bool false] 64
  have g1 : ¬ (a : Int) < 0 := by omega
  have g2 : ¬ (b : Int) < 0 := by omega
  go_enter Tryd.func19, Tryd.ntmps19
  go_wp2_with fail
  refine (wdsize_any _ _ h1).mono ?_
  rintro e w' ⟨rfl, rfl⟩
  go_wp2_with fail
  refine (wdsize_any _ _ h2).mono ?_
  rintro e w' ⟨rfl, rfl⟩
  go_wp2_with fail
  refine (Tryd.bits_Mul64 _ _ (by omega) (by omega) _).mono ?_
  rintro e w' ⟨rfl, rfl⟩
  go_wp2_with fail
  refine (wdsigned_any _ _ _).mono ?_
  rintro e w1 ⟨rfl, hb1⟩
  replace X := X.to hb1
  clear hb1
  have hr := X.r1
  go_wp2
  refine bodyPost_ret (v := Nv (a * b)) (by simp [results, Tryd.results19, hr, go_sem]) rfl ⟨rfl, ?_⟩
  have HX := X.1
  have hz := HX.size
  go_grown
set_option maxHeartbeats 1000000 in
theorem wdplaced_any (v : Nat) (w : World) (h : v < 1329227995784915872903807060280344576) :
    Calls Tryd.prog 24 #[Nv v] w fun e w' => e = .returned (.tuple #[Wv v, .int .i64 0]) ∧ Below w.heap.size w w' := by
  obtain ⟨hi, hhi⟩ : ∃ hi, hi = v / 18446744073709551616 := ⟨_, rfl⟩
  obtain ⟨lo, hlo⟩ : ∃ lo, lo = v % 18446744073709551616 := ⟨_, rfl⟩
  obtain ⟨a, ha⟩ : ∃ a, a = v / 1152921504606846976 := ⟨_, rfl⟩
  obtain ⟨b, hb⟩ : ∃ b, b = v % 1152921504606846976 := ⟨_, rfl⟩
  have d1 : hi < 72057594037927936 := by omega
  have E1 : IntKind.u64.wrap ((hi : Int) * 16) = ((hi * 16 : Nat) : Int) := by rw [IntKind.wrap_u64]; omega
  have E2 : (lo : Int) / 1152921504606846976 = ((lo / 1152921504606846976 : Nat) : Int) := by omega
  have E3 : bits .or .u64 ((hi * 16 : Nat) : Int) ((lo / 1152921504606846976 : Nat) : Int) = (a : Int) := by
    have e : hi * 16 ||| lo / 1152921504606846976 = a := by
      rw [show hi * 16 = 2 ^ 4 * hi by omega, Nat.two_pow_add_eq_or_of_lt (by omega : lo / 1152921504606846976 < 2 ^ 4) hi |>.symm]
      omega
    exact u64_or_nat e (by omega) (by omega)
  have E4 : IntKind.i64.wrap (a : Int) = (a : Int) := IntWalk.i64_in _ (by omega)
  have E5 : bits .and .u64 (lo : Int) 1152921504606846975 = (b : Int) := by
    have e : lo &&& 1152921504606846975 = lo % 1152921504606846976 := Nat.and_two_pow_sub_one_eq_mod lo 60
    have := bits_and_u64_nat lo 1152921504606846975 (by omega) (by omega)
    rw [e] at this
    have e2 : lo % 1152921504606846976 = b := by omega
    rw [e2] at this
    exact this
  have E6 : IntKind.i64.wrap (b : Int) = (b : Int) := IntWalk.i64_in _ (by omega)
  have g1 : ¬ ((hi : Int) > 72057594037927936) := by omega
  have g2 : ((hi : Int) == 72057594037927936) = false := beq_eq_false_iff_ne.2 (by omega)
  have X := ((Own.start w).alloc #[.int .u64 (hi : Int), .int .u64 (lo : Int), .bool false] 64).alloc #[.int .i64 0, .int .i64 0] 50
  unfold Nv Wv
  rw [← hhi, ← hlo, ← ha, ← hb]
  generalize ((hi * 16 : Nat) : Int) = z1 at *
  generalize ((lo / 1152921504606846976 : Nat) : Int) = z2 at *
  clear hhi hlo ha hb
  go_enter Tryd.func24, Tryd.ntmps24
  go_wp2
  go_quiet (fail)
  go_wp2
  have Y := (X.drewN' nq).1
  refine bodyPost_ret (v := .tuple #[.agg #[.int .i64 (a : Int), .int .i64 (b : Int)], .int .i64 0]) (by simp [results, Tryd.results24, go_sem]) rfl ⟨rfl, ?_⟩
  exact below_set (below_set Y (by omega) _) (by omega) _
set_option maxRecDepth 100000 in
set_option maxHeartbeats 1000000 in
theorem wdvalid_any (v : Nat) (w : World) (h : v < 1329227995784915872903807060280344576) :
    Calls Tryd.prog 27 #[Wv v] w fun e w' => e = .returned (.bool true) ∧ Below w.heap.size w w' := by
  have a1 : v / 1152921504606846976 < 1152921504606846976 := by omega
  have a2 : v % 1152921504606846976 < 1152921504606846976 := by omega
  unfold Wv
  generalize v / 1152921504606846976 = a at *
  generalize v % 1152921504606846976 = b at *
  have b1 : (-1152921504606846976 : Int) ≤ (a : Int) := by omega
  have b2 : (a : Int) < 1152921504606846976 := by omega
  have b3 : (0 : Int) ≤ (b : Int) := by omega
  have b4 : (b : Int) < 1152921504606846976 := by omega
  clear h a1 a2
  go_enter Tryd.func27, Tryd.ntmps27
  go_wp2
  go_ret
  exact ⟨ret_bool rfl, by go_grown⟩
set_option maxHeartbeats 1000000 in
theorem wdvalue_any (v : Nat) (w : World) (h : v < 1329227995784915872903807060280344576) :
    Calls Tryd.prog 29 #[Wv v] w fun e w' => e = .returned (Nv v) ∧ Below w.heap.size w w' := by
  obtain ⟨hi, hhi⟩ : ∃ hi, hi = v / 18446744073709551616 := ⟨_, rfl⟩
  obtain ⟨lo, hlo⟩ : ∃ lo, lo = v % 18446744073709551616 := ⟨_, rfl⟩
  obtain ⟨a, ha⟩ : ∃ a, a = v / 1152921504606846976 := ⟨_, rfl⟩
  obtain ⟨b, hb⟩ : ∃ b, b = v % 1152921504606846976 := ⟨_, rfl⟩
  obtain ⟨c, hc⟩ : ∃ c, c = a * 1152921504606846976 % 18446744073709551616 := ⟨_, rfl⟩
  have a1 : a < 1152921504606846976 := by omega
  have E1 : (a : Int) / 16 = (hi : Int) := by omega
  have E2 : IntKind.u64.wrap ((a : Int) * 1152921504606846976) = (c : Int) := e_mul (y := 1152921504606846976) hc
  have E3 : IntKind.u64.wrap (b : Int) = (b : Int) := u64_nat (by omega)
  have E4 : bits .or .u64 (c : Int) (b : Int) = (lo : Int) := by
    have e : c ||| b = lo := by
      have : c = 2 ^ 60 * (a % 16) := by omega
      rw [this, Nat.two_pow_add_eq_or_of_lt (by omega : b < 2 ^ 60) (a % 16) |>.symm]
      omega
    exact u64_or_nat e (by omega) (by omega)
  have g1 : (0 : Int) ≤ (a : Int) := by omega
  have X := ((Own.start w).alloc #[.int .i64 (a : Int), .int .i64 (b : Int)] 50).alloc #[.int .u64 0, .int .u64 0, .bool false] 64
  unfold Nv Wv
  rw [← hhi, ← hlo, ← ha, ← hb]
  clear hhi hlo ha hb hc h
  go_enter Tryd.func29, Tryd.ntmps29
  go_wp2_with fail
  refine (wdsize_any _ _ (by omega)).mono ?_
  rintro e w' ⟨rfl, rfl⟩
  go_wp2
  refine bodyPost_ret (v := .agg #[.int .u64 (hi : Int), .int .u64 (lo : Int), .bool false]) (by simp [results, Tryd.results29, go_sem]) rfl ⟨rfl, ?_⟩
  go_grown
set_option maxHeartbeats 400000 in
theorem wdwhole_any (n : Nat) (w : World) (h : n ≤ 9223372036854775807) :
    Calls Tryd.prog 30 #[.int .u64 (n : Int), .bool false] w fun e w' => e = .returned (.tuple #[.int .i64 (n : Int), .int .i64 0]) ∧ w = w' := by
  go_enter Tryd.func30, Tryd.ntmps30
  go_wp2
  go_ret2
  exact ⟨rfl, rfl⟩
/-- a quotient, rounded down or up -/
def qud (v c : Nat) (u : Bool) : Nat := v / c + if v % c ≠ 0 ∧ u = true then 1 else 0
theorem qud_down (v c : Nat) : ((qud v c false : Nat) : Int) = (v : Int) / (c : Int) := by simp [qud]
theorem qud_up (v c : Nat) (hc : 0 < c) : ((qud v c true : Nat) : Int) = cdiv (v : Int) (c : Int) := by
  have h : ((qud v c true : Nat) : Int) = if v % c ≠ 0 then (v : Int) / (c : Int) + 1 else (v : Int) / (c : Int) := by unfold qud; split <;> simp_all
  have m := Nat.div_add_mod v c
  have ml := Nat.mod_lt v hc
  generalize hq : v / c = q at *
  generalize v % c = r at *
  have e : (v : Int) = (c : Int) * (q : Int) + (r : Int) := by rw [← m]; simp
  have ed : (v : Int) / (c : Int) = (q : Int) := by rw [← hq]; simp
  rw [h, ed]
  apply Int.le_antisymm
  · split
    · rcases Int.lt_or_le (q : Int) (cdiv v c) with k | k
      · omega
      · have := (cdiv_iff (n := (v : Int)) (d := (c : Int)) (by omega)).1 k
        have e2 : (q : Int) * (c : Int) = (c : Int) * (q : Int) := Int.mul_comm ..
        omega
    · exact ed ▸ (fc_le (n := (v : Int)) (d := (c : Int)) (by omega)).1
  · rw [cdiv_iff (by omega)]
    split
    · have e2 : ((q : Int) + 1) * (c : Int) = (c : Int) * (q : Int) + (c : Int) := by grind
      omega
    · have e2 : (q : Int) * (c : Int) = (c : Int) * (q : Int) := Int.mul_comm ..
      omega
set_option maxHeartbeats 4000000 in
theorem wdquotient_any (v c : Nat) (u : Bool) (w : World) (hc : 0 < c) (hc' : c ≤ 9223372036854775807) (hq : v / c < 4611686018427387904) :
    Calls Tryd.prog 20 #[Nv v, .int .i64 (c : Int), .bool u] w fun e w' => e = .returned (.tuple #[.int .i64 (qud v c u : Nat), .int .i64 0]) ∧ Below w.heap.size w w' := by
  obtain ⟨hi, hhi⟩ : ∃ hi, hi = v / 18446744073709551616 := ⟨_, rfl⟩
  obtain ⟨lo, hlo⟩ : ∃ lo, lo = v % 18446744073709551616 := ⟨_, rfl⟩
  obtain ⟨q, hqq⟩ : ∃ q, q = v / c := ⟨_, rfl⟩
  obtain ⟨r, hr⟩ : ∃ r, r = v % c := ⟨_, rfl⟩
  have d0 : hi < c := by
    have m := Nat.div_add_mod v c
    have ml := Nat.mod_lt v hc
    have : c * (v / c) ≤ c * 4611686018427387903 := Nat.mul_le_mul_left c (by omega)
    omega
  have ev : hi * 18446744073709551616 + lo = v := by omega
  have d1 : ¬ ((hi : Int) ≥ (c : Int)) := by omega
  have X := (Own.start w).alloc #[.int .u64 (hi : Int), .int .u64 (lo : Int), .bool false] 64
  have D := hide (fun W => div64_any hi lo c d0 (by omega) (by omega) W)
  rw [ev, ← hqq, ← hr] at D
  have HQ := hide (show (qud v c u : Nat) = q + (if r ≠ 0 ∧ u = true then 1 else 0) by unfold qud; rw [hqq, hr])
  unfold Nv
  rw [← hhi, ← hlo]
  have q1 : q < 4611686018427387904 := by omega
  have g0 : ¬ (c : Int) < 0 := by omega
  have g3 : IntKind.u64.wrap ((q : Int) + 1) = ((q + 1 : Nat) : Int) := by rw [IntKind.wrap_u64]; omega
  have g4 : (((q + 1 : Nat) : Int) == 0) = false := beq_eq_false_iff_ne.2 (by omega)
  obtain ⟨q2, hq2⟩ : ∃ q2, q2 = q + 1 := ⟨_, rfl⟩
  rw [← hq2] at g3 g4
  have HQ2 := hide hq2
  have q3 : q2 ≤ 4611686018427387904 := by omega
  clear hhi hlo hqq hr ev hq hq2 d0
  by_cases hr0 : r = 0
  · have HR := hide hr0
    have g1 : ¬ ((r : Int) > 0) := by omega
    clear hr0
    go_enter Tryd.func20, Tryd.ntmps20
    go_wp2_with fail
    refine (wdsize_any _ _ hc').mono ?_
    rintro e w' ⟨rfl, rfl⟩
    have hr := X.r1
    go_wp2_with fail
    refine (D.out _).mono ?_
    rintro e w1 ⟨rfl, nn, rfl⟩
    go_wp2_with fail
    refine (wdwhole_any _ _ (by omega)).mono ?_
    rintro e w' ⟨rfl, rfl⟩
    go_wp2
    go_ret2
    exact ⟨by rw [HQ.out, HR.out]; simp, below_dnW X.1 nn⟩
  · have HR := hide hr0
    have g1 : (r : Int) > 0 := by omega
    clear hr0
    cases u
    all_goals
      go_enter Tryd.func20, Tryd.ntmps20
      go_wp2_with fail
      refine (wdsize_any _ _ hc').mono ?_
      rintro e w' ⟨rfl, rfl⟩
      have hr := X.r1
      go_wp2_with fail
      refine (D.out _).mono ?_
      rintro e w1 ⟨rfl, nn, rfl⟩
      go_wp2_with fail
      refine (wdwhole_any _ _ (by omega)).mono ?_
      rintro e w' ⟨rfl, rfl⟩
      go_wp2
      go_ret2
      exact ⟨by rw [HQ.out]; have := HQ2.out; have := HR.out; simp [*], below_dnW X.1 nn⟩
set_option maxHeartbeats 1000000 in
theorem wddivided_any (v c : Nat) (u : Bool) (w : World) (h : v < 1329227995784915872903807060280344576) (hc : 0 < c) (hc' : c ≤ 9223372036854775807) (hq : v / c < 4611686018427387904) :
    Calls Tryd.prog 78 #[Wv v, .int .i64 (c : Int), .bool u] w fun e w' => e = .returned (.tuple #[.int .i64 (qud v c u : Nat), .int .i64 0]) ∧ Below w.heap.size w w' := by
  have g : ((c : Int) == 0) = false := beq_eq_false_iff_ne.2 (by omega)
  have X := (Own.start w).alloc #[.int .i64 ((v / 1152921504606846976 : Nat) : Int), .int .i64 ((v % 1152921504606846976 : Nat) : Int)] 50
  have V := hide (fun W => wdvalid_any v W h)
  have U := hide (fun W => wdvalue_any v W h)
  have Q := hide (fun W => wdquotient_any v c u W hc hc' hq)
  clear h hc hc' hq
  go_enter Tryd.func78, Tryd.ntmps78
  go_wp2_with fail
  refine (V.out _).mono ?_
  rintro e w1 ⟨rfl, hb⟩
  replace X := X.to hb
  clear hb
  have hr := X.r1
  go_wp2_with fail
  refine (U.out _).mono ?_
  rintro e w2 ⟨rfl, hb⟩
  replace X := X.to hb
  clear hb hr
  have hr := X.r1
  go_wp2_with fail
  refine (Q.out _).mono ?_
  rintro e w3 ⟨rfl, hb⟩
  replace X := X.to hb
  clear hb hr
  go_wp2
  go_ret2
  exact ⟨rfl, X.1⟩
set_option maxHeartbeats 1000000 in
theorem wdfloor_any (v c : Nat) (w : World) (h : v < 1329227995784915872903807060280344576) (hc : 0 < c) (hc' : c ≤ 9223372036854775807) (hq : v / c < 4611686018427387904) :
    Calls Tryd.prog 71 #[Wv v, .int .i64 (c : Int)] w fun e w' => e = .returned (.tuple #[.int .i64 (qud v c false : Nat), .int .i64 0]) ∧ Below w.heap.size w w' := by
  have X := (Own.start w).alloc #[.int .i64 ((v / 1152921504606846976 : Nat) : Int), .int .i64 ((v % 1152921504606846976 : Nat) : Int)] 50
  have Q := hide (fun W => wddivided_any v c false W h hc hc' hq)
  clear h hc hc' hq
  go_enter Tryd.func71, Tryd.ntmps71
  go_wp2_with fail
  refine (Q.out _).mono ?_
  rintro e w3 ⟨rfl, hb⟩
  replace X := X.to hb
  clear hb
  go_wp2
  go_ret2
  exact ⟨rfl, X.1⟩
set_option maxHeartbeats 1000000 in
theorem wdceil_any (v c : Nat) (w : World) (h : v < 1329227995784915872903807060280344576) (hc : 0 < c) (hc' : c ≤ 9223372036854775807) (hq : v / c < 4611686018427387904) :
    Calls Tryd.prog 72 #[Wv v, .int .i64 (c : Int)] w fun e w' => e = .returned (.tuple #[.int .i64 (qud v c true : Nat), .int .i64 0]) ∧ Below w.heap.size w w' := by
  have X := (Own.start w).alloc #[.int .i64 ((v / 1152921504606846976 : Nat) : Int), .int .i64 ((v % 1152921504606846976 : Nat) : Int)] 50
  have Q := hide (fun W => wddivided_any v c true W h hc hc' hq)
  clear h hc hc' hq
  go_enter Tryd.func72, Tryd.ntmps72
  go_wp2_with fail
  refine (Q.out _).mono ?_
  rintro e w3 ⟨rfl, hb⟩
  replace X := X.to hb
  clear hb
  go_wp2
  go_ret2
  exact ⟨rfl, X.1⟩
set_option maxHeartbeats 1000000 in
theorem wdproduct_any (a b : Nat) (w : World) (h1 : a ≤ 9223372036854775807) (h2 : b ≤ 9223372036854775807) (h : a * b < 1329227995784915872903807060280344576) :
    Calls Tryd.prog 12 #[.int .i64 (a : Int), .int .i64 (b : Int)] w fun e w' => e = .returned (.tuple #[Wv (a * b), .int .i64 0]) ∧ Below w.heap.size w w' := by
  have X := (Own.start w).alloc #[.int .i64 0, .int .i64 0] 50
  have T := hide (fun W => wdtimes_any a b W h1 h2)
  have P := hide (fun W => wdplaced_any (a * b) W h)
  clear h1 h2 h
  go_enter Tryd.func12, Tryd.ntmps12
  go_wp2_with fail
  refine (T.out _).mono ?_
  rintro e w1 ⟨rfl, hb⟩
  replace X := X.to hb
  clear hb
  have hr := X.r1
  go_wp2_with fail
  refine (P.out _).mono ?_
  rintro e w2 ⟨rfl, hb⟩
  replace X := X.to hb
  clear hb hr
  have hr := X.r1
  go_wp2
  refine bodyPost_ret (v := .tuple #[Wv (a * b), .int .i64 0]) (by simp [results, Tryd.results12, hr, go_sem]) rfl ⟨rfl, ?_⟩
  exact below_set (below_set X.1 (by omega) _) (by omega) _
end Go.Proofs.YtbmocghfpcfmhaaDoor

namespace Go.Proofs.YtbmocghfpcfmhaaDoor
open Go Go.RowKit

/-- an integer as a wide one: two parts -/
abbrev WV (v : Int) : Value := .agg #[.int .i64 (v / 1152921504606846976), .int .i64 (v % 1152921504606846976)]
def wideB (v : Int) : Prop := -1267650600228229401496703205376 ≤ v ∧ v ≤ 1267650600228229401496703205376
theorem WV_nat (n : Nat) : WV (n : Int) = Wv n := by simp [WV, Wv]
theorem WN_nat (n : Nat) : WN (n : Int) = Nv n := by
  have h : ¬ ((n : Int) < 0) := by omega
  simp [WN, Nv, h]
theorem WN_neg {m : Nat} (h : 0 < m) : WN (-(m : Int)) = .agg #[.int .u64 ((m / 18446744073709551616 : Nat) : Int), .int .u64 ((m % 18446744073709551616 : Nat) : Int), .bool true] := by
  have e : (-(m : Int)).natAbs = m := by omega
  have h2 : (-(m : Int)) < 0 := by omega
  unfold WN
  rw [e, decide_eq_true h2]
theorem WV_neg0 {m : Nat} (h : m % 1152921504606846976 = 0) : WV (-(m : Int)) = .agg #[.int .i64 (-((m / 1152921504606846976 : Nat) : Int)), .int .i64 0] := by
  have e1 : -(m : Int) / 1152921504606846976 = -((m / 1152921504606846976 : Nat) : Int) := by omega
  have e2 : -(m : Int) % 1152921504606846976 = 0 := by omega
  unfold WV
  rw [e1, e2]
theorem WV_neg1 {m : Nat} (h : 0 < m % 1152921504606846976) : WV (-(m : Int)) = .agg #[.int .i64 (-((m / 1152921504606846976 : Nat) : Int) - 1), .int .i64 (1152921504606846976 - ((m % 1152921504606846976 : Nat) : Int))] := by
  have e1 : -(m : Int) / 1152921504606846976 = -((m / 1152921504606846976 : Nat) : Int) - 1 := by omega
  have e2 : -(m : Int) % 1152921504606846976 = 1152921504606846976 - ((m % 1152921504606846976 : Nat) : Int) := by omega
  unfold WV
  rw [e1, e2]
/-- what signed makes of the words of a magnitude -/
theorem WN_of {x : Int} {m : Nat} {b : Bool} (hm : x.natAbs = m) (hb : x ≠ 0 → decide (x < 0) = b) : WN x = .agg #[.int .u64 ((m / 18446744073709551616 : Nat) : Int), .int .u64 ((m % 18446744073709551616 : Nat) : Int), .bool (b && (((m / 18446744073709551616 : Nat) : Int) != 0 || ((m % 18446744073709551616 : Nat) : Int) != 0))] := by
  rw [split_zero m]
  unfold WN
  rw [hm]
  by_cases h : x = 0
  · subst h
    have : m = 0 := by simpa using hm.symm
    subst this
    simp
  · have : m ≠ 0 := by omega
    rw [← hb h]
    simp [this]
end Go.Proofs.YtbmocghfpcfmhaaDoor
