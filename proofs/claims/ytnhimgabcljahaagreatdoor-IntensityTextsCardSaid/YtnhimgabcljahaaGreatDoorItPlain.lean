/- Tables of intensities, said of lists: where a number is in an ascending list, and values on the line through points. -/
import Derived.Test.YtnhimgabcljahaaGreatDoorBase
namespace Go.Proofs.YtnhimgabcljahaaGreatDoor
open Go.RowKit

/-- numbers that ascend strictly -/
def Asc (l : List Int) : Prop := ∀ i, i + 1 < l.length → l.getD i 0 < l.getD (i + 1) 0
theorem Asc.lt {l : List Int} (h : Asc l) {i : Nat} : ∀ {j : Nat}, i < j → j < l.length → l.getD i 0 < l.getD j 0
  | 0, hij, _ => absurd hij (by omega)
  | j + 1, hij, hj => by
    have s := h j hj
    by_cases e : i = j
    · subst e; exact s
    · have := Asc.lt h (i := i) (j := j) (by omega) (by omega)
      omega
theorem Asc.le {l : List Int} (h : Asc l) {i j : Nat} (hij : i ≤ j) (hj : j < l.length) : l.getD i 0 ≤ l.getD j 0 := by
  by_cases e : i = j
  · subst e; omega
  · have := h.lt (i := i) (j := j) (by omega) hj; omega
theorem Asc.inj {l : List Int} (h : Asc l) {i j : Nat} (hi : i < l.length) (hj : j < l.length) (e : l.getD i 0 = l.getD j 0) : i = j := by
  rcases Nat.lt_trichotomy i j with k | k | k
  · have := h.lt k hj; omega
  · exact k
  · have := h.lt k hi; omega

/-- a place between two neighbours of a list, or at one of its numbers -/
structure Pl where
  lo : Nat
  hi : Nat
  rest : Int
  whole : Int
def IsPl (l : List Int) (x : Int) (p : Pl) : Prop :=
  p.hi < l.length ∧ ((p.hi = p.lo ∧ p.rest = 0 ∧ p.whole = 1 ∧ l.getD p.lo 0 = x) ∨ (p.hi = p.lo + 1 ∧ l.getD p.lo 0 < x ∧ x < l.getD p.hi 0 ∧ p.rest = x - l.getD p.lo 0 ∧ p.whole = l.getD p.hi 0 - l.getD p.lo 0))
def Pl.val (p : Pl) (f : Nat → Int) : Int := (p.whole - p.rest) * f p.lo + p.rest * f p.hi
theorem IsPl.bd {l : List Int} {x : Int} {p : Pl} (h : IsPl l x p) : 0 ≤ p.rest ∧ p.rest < p.whole ∧ p.lo ≤ p.hi ∧ p.lo < l.length ∧ 0 < p.whole ∧ l.getD p.lo 0 ≤ x ∧ x ≤ l.getD p.hi 0 := by
  obtain ⟨h1, ⟨a, b, c, d⟩ | ⟨a, b, c, d, e⟩⟩ := h
  · rw [a]; omega
  · omega
theorem IsPl.unique {l : List Int} (ha : Asc l) {x : Int} {p q : Pl} (h : IsPl l x p) (k : IsPl l x q) : p = q := by
  have b := h.bd
  have b' := k.bd
  obtain ⟨h1, h2⟩ := h
  obtain ⟨k1, k2⟩ := k
  have elo : p.lo = q.lo := by
    rcases Nat.lt_trichotomy p.lo q.lo with s | s | s
    · exfalso
      have t := ha.lt s b'.2.2.2.1
      rcases h2 with ⟨a, _, _, d⟩ | ⟨a, _, c, _⟩
      · omega
      · have := ha.le (i := p.hi) (j := q.lo) (by omega) b'.2.2.2.1
        omega
    · exact s
    · exfalso
      have t := ha.lt s b.2.2.2.1
      rcases k2 with ⟨a, _, _, d⟩ | ⟨a, _, c, _⟩
      · omega
      · have := ha.le (i := q.hi) (j := p.lo) (by omega) b.2.2.2.1
        omega
  cases p; cases q
  simp only at elo
  subst elo
  simp only [Pl.mk.injEq, true_and] at *
  rcases h2 with ⟨a, b1, c, d⟩ | ⟨a, b1, c, d, e⟩ <;> rcases k2 with ⟨a', b1', c', d'⟩ | ⟨a', b1', c', d', e'⟩
  · omega
  · omega
  · omega
  · subst a a'
    omega
/-- how many numbers are at most x -/
def cnt (l : List Int) (x : Int) : Nat := (l.takeWhile fun a => decide (a ≤ x)).length
theorem cnt_le (l : List Int) (x : Int) : cnt l x ≤ l.length := (List.takeWhile_sublist _).length_le
theorem cnt_lt : ∀ (l : List Int) (x : Int) (i : Nat), i < cnt l x → l.getD i 0 ≤ x
  | [], _, i, h => by simp [cnt] at h
  | a :: l, x, i, h => by
    unfold cnt at h
    rw [List.takeWhile_cons] at h
    split at h
    · rename_i hx
      have hx' : a ≤ x := by simpa using hx
      cases i with
      | zero => simpa using hx'
      | succ i => simpa using cnt_lt l x i (by simpa [cnt] using h)
    · simp at h
theorem cnt_ge : ∀ (l : List Int) (x : Int), cnt l x < l.length → x < l.getD (cnt l x) 0
  | [], _, h => by simp at h
  | a :: l, x, h => by
    by_cases hx : a ≤ x
    · have e : cnt (a :: l) x = cnt l x + 1 := by simp [cnt, hx]
      rw [e] at h ⊢
      simpa using cnt_ge l x (by simpa using h)
    · have e : cnt (a :: l) x = 0 := by simp [cnt, hx]
      rw [e]; simp; omega
/-- the place of a number that is within a list -/
def plc (l : List Int) (x : Int) : Pl :=
  if l.getD (cnt l x - 1) 0 = x then ⟨cnt l x - 1, cnt l x - 1, 0, 1⟩ else ⟨cnt l x - 1, cnt l x, x - l.getD (cnt l x - 1) 0, l.getD (cnt l x) 0 - l.getD (cnt l x - 1) 0⟩
def inL (l : List Int) (x : Int) : Bool := decide (l.getD 0 0 ≤ x ∧ x ≤ l.getD (l.length - 1) 0)
theorem inL_iff {l : List Int} {x : Int} : inL l x = true ↔ l.getD 0 0 ≤ x ∧ x ≤ l.getD (l.length - 1) 0 := by simp [inL]
theorem plc_is {l : List Int} (_ha : Asc l) {x : Int} (hn : 1 ≤ l.length) (h1 : l.getD 0 0 ≤ x) (h2 : x ≤ l.getD (l.length - 1) 0) : IsPl l x (plc l x) := by
  have c0 : 1 ≤ cnt l x := by
    rcases Nat.eq_zero_or_pos (cnt l x) with e | e
    · have := cnt_ge l x (by omega)
      rw [e] at this; omega
    · exact e
  have c1 := cnt_le l x
  have lo := cnt_lt l x (cnt l x - 1) (by omega)
  unfold plc
  split
  · rename_i e
    exact ⟨by simp only; omega, .inl ⟨rfl, rfl, rfl, e⟩⟩
  · rename_i e
    have c2 : cnt l x < l.length := by
      rcases Nat.lt_or_ge (cnt l x) l.length with k | k
      · exact k
      · have : cnt l x - 1 = l.length - 1 := by omega
        rw [this] at lo e; omega
    have hi := cnt_ge l x c2
    exact ⟨c2, .inr ⟨by simp only; omega, by simp only; omega, hi, rfl, rfl⟩⟩
theorem plc_eq {l : List Int} (ha : Asc l) {x : Int} (hn : 1 ≤ l.length) {p : Pl} (h : IsPl l x p) : p = plc l x := by
  have b := h.bd
  refine h.unique ha (plc_is ha hn ?_ ?_)
  · have := ha.le (i := 0) (j := p.lo) (Nat.zero_le _) b.2.2.2.1; omega
  · have := ha.le (i := p.hi) (j := l.length - 1) (by have := h.1; omega) (by omega); omega
theorem plc_at {l : List Int} (ha : Asc l) {i : Nat} (hi : i < l.length) : plc l (l.getD i 0) = ⟨i, i, 0, 1⟩  := by
  have h : IsPl l (l.getD i 0) (⟨i, i, 0, 1⟩ : Pl) := ⟨hi, Or.inl ⟨Eq.refl i, Eq.refl 0, Eq.refl 1, Eq.refl _⟩⟩
  exact (plc_eq ha (by omega) h).symm

/-- values that do not descend -/
def Mon (n : Nat) (f : Nat → Int) : Prop := ∀ i j, i ≤ j → j < n → f i ≤ f j
theorem Mon.of_step {n : Nat} {f : Nat → Int} (h : ∀ i, i + 1 < n → f i ≤ f (i + 1)) : Mon n f := by
  intro i j
  induction j with
  | zero => intro h1 _; have : i = 0 := by omega
            subst this; exact Int.le_refl _
  | succ j ih =>
    intro h1 h2
    by_cases e : i = j + 1
    · subst e; exact Int.le_refl _
    · have := ih (by omega) (by omega)
      have := h j h2
      omega
theorem lin0 (w r a b : Int) : (w - r) * a + r * b = w * a + r * (b - a) := by grind
theorem lin1 (w r a b : Int) : (w - r) * a + r * b = w * b - (w - r) * (b - a) := by grind
theorem val_bd {l : List Int} {x : Int} {p : Pl} (h : IsPl l x p) {f : Nat → Int} (hm : Mon l.length f) : f p.lo * p.whole ≤ p.val f ∧ p.val f ≤ f p.hi * p.whole := by
  have b := h.bd
  have hf := hm p.lo p.hi b.2.2.1 h.1
  have e0 : p.val f = p.whole * f p.lo + p.rest * (f p.hi - f p.lo) := lin0 ..
  have e1 : p.val f = p.whole * f p.hi - (p.whole - p.rest) * (f p.hi - f p.lo) := lin1 ..
  have m0 : 0 ≤ p.rest * (f p.hi - f p.lo) := Int.mul_nonneg b.1 (by omega)
  have m1 : 0 ≤ (p.whole - p.rest) * (f p.hi - f p.lo) := Int.mul_nonneg (by omega) (by omega)
  constructor
  · rw [e0, Int.mul_comm]; omega
  · rw [e1, Int.mul_comm]; omega
/-- the values on the line through the points do not descend -/
theorem val_mono {l : List Int} (ha : Asc l) {x y : Int} {p q : Pl} (h : IsPl l x p) (k : IsPl l y q) {f : Nat → Int} (hm : Mon l.length f) (hxy : x ≤ y) : p.val f * q.whole ≤ q.val f * p.whole := by
  have b := h.bd
  have b' := k.bd
  by_cases c : p.hi ≤ q.lo
  · have v1 := (val_bd h hm).2
    have v2 := (val_bd k hm).1
    have f1 := hm p.hi q.lo c b'.2.2.2.1
    have s1 : p.val f * q.whole ≤ f p.hi * p.whole * q.whole := Int.mul_le_mul_of_nonneg_right v1 (by omega)
    have s2 : f p.hi * p.whole * q.whole ≤ f q.lo * p.whole * q.whole := Int.mul_le_mul_of_nonneg_right (Int.mul_le_mul_of_nonneg_right f1 (by omega)) (by omega)
    have s3 : f q.lo * q.whole * p.whole ≤ q.val f * p.whole := Int.mul_le_mul_of_nonneg_right v2 (by omega)
    have s4 : f q.lo * p.whole * q.whole = f q.lo * q.whole * p.whole := by grind
    omega
  · obtain ⟨h1, h2⟩ := h
    obtain ⟨k1, k2⟩ := k
    have e : p.lo = q.lo ∧ p.hi = q.hi ∧ p.whole = q.whole ∧ p.rest ≤ q.rest := by
      rcases h2 with ⟨a, r, w, d⟩ | ⟨a, d, e, r, w⟩
      · exfalso
        have := ha.lt (i := q.lo) (j := p.lo) (by omega) b.2.2.2.1
        rcases k2 with ⟨a', _, _, d'⟩ | ⟨a', _, d', _⟩
        · omega
        · have := ha.le (i := q.hi) (j := p.lo) (by omega) b.2.2.2.1
          omega
      · by_cases s : p.lo = q.lo
        · rcases k2 with ⟨a', r', w', d'⟩ | ⟨a', d', e', r', w'⟩
          · rw [s] at d; omega
          · have t : p.hi = q.hi := by omega
            rw [s, t] at w; rw [s] at r
            omega
        · exfalso
          have := ha.lt (i := q.lo) (j := p.lo) (by omega) b.2.2.2.1
          rcases k2 with ⟨a', _, _, d'⟩ | ⟨a', _, d', _⟩
          · omega
          · have := ha.le (i := q.hi) (j := p.lo) (by omega) b.2.2.2.1
            omega
    obtain ⟨e1, e2, e3, e4⟩ := e
    have hf := hm p.lo p.hi b.2.2.1 h1
    rw [e3]
    refine Int.mul_le_mul_of_nonneg_right ?_ (by omega)
    unfold Pl.val
    rw [← e1, ← e2, ← e3]
    have m0 : 0 ≤ (q.rest - p.rest) * (f p.hi - f p.lo) := Int.mul_nonneg (by omega) (by omega)
    have m1 : (p.whole - q.rest) * f p.lo + q.rest * f p.hi - ((p.whole - p.rest) * f p.lo + p.rest * f p.hi) = (q.rest - p.rest) * (f p.hi - f p.lo) := by grind
    omega
theorem val_le {p : Pl} {f g : Nat → Int} (h0 : 0 ≤ p.rest) (h1 : p.rest ≤ p.whole) (hl : f p.lo ≤ g p.lo) (hh : f p.hi ≤ g p.hi) : p.val f ≤ p.val g := by
  unfold Pl.val
  have a := Int.mul_le_mul_of_nonneg_left hl (show 0 ≤ p.whole - p.rest by omega)
  have b := Int.mul_le_mul_of_nonneg_left hh h0
  omega
theorem val_mul (p : Pl) (f : Nat → Int) (c : Int) : p.val (fun i => f i * c) = p.val f * c := by unfold Pl.val; grind
theorem val_comm (p q : Pl) (f : Nat → Nat → Int) : p.val (fun j => q.val (f j)) = q.val (fun i => p.val (fun j => f j i)) := by unfold Pl.val; grind

/-- quotients, rounded up -/
def cdiv (n d : Int) : Int := (n + d - 1) / d
theorem fdiv_le {n d m e : Int} (hd : 0 < d) (he : 0 < e) (h : n * e ≤ m * d) : n / d ≤ m / e := by
  rw [Int.le_ediv_iff_mul_le he]
  have a : n / d * d ≤ n := Int.ediv_mul_le n (by omega)
  have b : n / d * d * e ≤ n * e := Int.mul_le_mul_of_nonneg_right a (by omega)
  have c : n / d * e * d ≤ m * d := by have : n / d * e * d = n / d * d * e := by grind
                                       omega
  exact Int.le_of_mul_le_mul_right c hd
theorem cdiv_iff {n d q : Int} (hd : 0 < d) : cdiv n d ≤ q ↔ n ≤ q * d := by
  unfold cdiv
  constructor
  · intro h
    have a : (n + d - 1) < ((n + d - 1) / d + 1) * d := Int.lt_ediv_add_one_mul_self _ hd
    have b : ((n + d - 1) / d + 1) * d ≤ (q + 1) * d := Int.mul_le_mul_of_nonneg_right (by omega) (by omega)
    have c : (q + 1) * d = q * d + d := by grind
    omega
  · intro h
    have : (n + d - 1) / d < q + 1 := by
      rw [Int.ediv_lt_iff_lt_mul hd]
      have c : (q + 1) * d = q * d + d := by grind
      omega
    omega
theorem cdiv_le {n d m e : Int} (hd : 0 < d) (he : 0 < e) (h : n * e ≤ m * d) : cdiv n d ≤ cdiv m e := by
  rw [cdiv_iff hd]
  have a : m ≤ cdiv m e * e := (cdiv_iff he).1 (Int.le_refl _)
  have b : m * d ≤ cdiv m e * e * d := Int.mul_le_mul_of_nonneg_right a (by omega)
  have c : n * e ≤ cdiv m e * d * e := by have : cdiv m e * d * e = cdiv m e * e * d := by grind
                                          omega
  exact Int.le_of_mul_le_mul_right c he
theorem fc_le {n d : Int} (hd : 0 < d) : n / d ≤ cdiv n d ∧ cdiv n d ≤ n / d + 1 := by
  constructor
  · exact Int.ediv_le_ediv hd (by omega)
  · rw [cdiv_iff hd]
    have a : n < (n / d + 1) * d := Int.lt_ediv_add_one_mul_self _ hd
    omega
/-- both quotients are a number just where it is exact -/
theorem fc_eq {n d q : Int} (hd : 0 < d) : (n / d = q ∧ cdiv n d = q) ↔ n = q * d := by
  constructor
  · rintro ⟨h1, h2⟩
    have a := (cdiv_iff (n := n) hd (q := q)).1 (by omega)
    have b := (Int.le_ediv_iff_mul_le (a := q) (b := n) hd).1 (by omega)
    omega
  · rintro rfl
    refine ⟨Int.mul_ediv_cancel _ (by omega), ?_⟩
    have a := (cdiv_iff (n := q * d) hd (q := q)).2 (Int.le_refl _)
    have b := (fc_le (n := q * d) hd).1
    rw [Int.mul_ediv_cancel _ (by omega)] at b
    omega
end Go.Proofs.YtnhimgabcljahaaGreatDoor
