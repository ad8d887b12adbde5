/- Parts of one proof, joined: Square metres: parts rounded down of the first sums of twice the areas, and their differences, said of integers (printed by gen_me.py out of XRtShareP). math/bits.Div64 where the high word is 0; it leaves memory as it is. Division of two words by one, half by half, said of natural numbers. math/bits.Div64: it returns quotient and rest of two words by one, wherever the high word is below the divisor; it leaves memory as it is. -/
import Derived.Test.YtaaadejamjbcbaaGreatDoorPkLanduseWhole14
import Derived.Test.YtaaadejamjbcbaaGreatDoorPkLanduseWhole2
import Derived.Deep.QuietTactic
import Derived.BigQuiet
import Derived.StillTailTactics
import Derived.Deep.RegionHeld3
import Derived.Test.YtaaadejamjbcbaaGreatDoorShelf2
namespace Go.Proofs.YtaaadejamjbcbaaGreatDoor

theorem take_snocR (l : List Int) (k : Nat) (h : k < l.length) : l.take (k + 1) = l.take k ++ [l[k]] := by rw [List.take_succ_eq_append_getElem h]
/-- the sum of the first k weights -/
def preS (l : List Int) (k : Nat) : Int := (l.take k).sum
theorem preS_zero (l : List Int) : preS l 0 = 0 := by simp [preS]
theorem preS_succ (l : List Int) (k : Nat) (h : k < l.length) : preS l (k + 1) = preS l k + l[k] := by
  unfold preS
  rw [take_snocR l k h, List.sum_append]
  simp
theorem preS_all (l : List Int) : preS l l.length = l.sum := by simp [preS]
/-- all weights fit -/
def wOk (l : List Int) : Prop := ∀ i (h : i < l.length), 0 ≤ l[i] ∧ l[i] ≤ 1152921504606846976
def wB (l : List Int) : Bool := l.all fun x => decide (0 ≤ x ∧ x ≤ 1152921504606846976)
theorem wB_iff {l : List Int} : wB l = true ↔ wOk l := by
  simp only [wB, List.all_eq_true, decide_eq_true_eq, wOk]
  constructor
  · exact fun h i hi => h _ (List.getElem_mem hi)
  · intro h x hx
    obtain ⟨i, hi, rfl⟩ := List.mem_iff_getElem.1 hx
    exact h i hi
theorem preS_bd {l : List Int} (h : wOk l) : ∀ k, k ≤ l.length → 0 ≤ preS l k ∧ preS l k ≤ k * 1152921504606846976
  | 0, _ => by simp [preS_zero]
  | k + 1, hk => by
    have i := preS_bd h k (by omega)
    have j := h k (by omega)
    rw [preS_succ l k (by omega)]
    omega
theorem preS_mono {l : List Int} (h : wOk l) {j : Nat} : ∀ {k}, j ≤ k → k ≤ l.length → preS l j ≤ preS l k
  | 0, hj, _ => by obtain rfl : j = 0 := by omega
                   exact Int.le_refl _
  | k + 1, hj, hk => by
    rcases Nat.lt_or_ge j (k + 1) with h1 | h1
    · have i := preS_mono h (j := j) (k := k) (by omega) (by omega)
      have := h k (by omega)
      rw [preS_succ l k (by omega)]
      omega
    · obtain rfl : j = k + 1 := by omega
      exact Int.le_refl _
/-- the first k shares of t by l, of the sum S -/
def qK (t S : Int) (l : List Int) (k : Nat) : Int := t * preS l k / S
def shK (t S : Int) (l : List Int) : Nat → List Int
  | 0 => []
  | k + 1 => shK t S l k ++ [qK t S l (k + 1) - qK t S l k]
theorem shK_length (t S : Int) (l : List Int) : ∀ k, (shK t S l k).length = k
  | 0 => rfl
  | k + 1 => by simp [shK, shK_length t S l k]
theorem shK_at (t S : Int) (l : List Int) : ∀ (k i : Nat) (_ : i < k), (shK t S l k)[i]? = some (qK t S l (i + 1) - qK t S l i)
  | k + 1, i, h => by
    simp only [shK]
    rcases Nat.lt_or_ge i k with h1 | h1
    · rw [List.getElem?_append_left (by rw [shK_length]; exact h1)]
      exact shK_at t S l k i h1
    · obtain rfl : i = k := by omega
      rw [List.getElem?_append_right (by rw [shK_length]; omega)]
      simp [shK_length]
theorem qK_bd {t S : Int} {l : List Int} (ht : 0 ≤ t) (hS : 0 < S) (hw : wOk l) (hs : l.sum ≤ S) (k : Nat) (hk : k ≤ l.length) : 0 ≤ qK t S l k ∧ qK t S l k ≤ t := by
  have b := preS_bd hw k hk
  have m : preS l k ≤ S := by
    have := preS_mono hw hk (Nat.le_refl _)
    rw [preS_all] at this
    omega
  unfold qK
  refine ⟨Int.ediv_nonneg (Int.mul_nonneg ht b.1) (by omega), ?_⟩
  refine Int.ediv_le_of_le_mul hS ?_
  exact Int.mul_le_mul_of_nonneg_left m ht
theorem qK_mono {t S : Int} {l : List Int} (ht : 0 ≤ t) (hS : 0 < S) (hw : wOk l) {j k : Nat} (hjk : j ≤ k) (hk : k ≤ l.length) : qK t S l j ≤ qK t S l k :=
  Int.ediv_le_ediv hS (Int.mul_le_mul_of_nonneg_left (preS_mono hw hjk hk) ht)
theorem qK_zero (t S : Int) (l : List Int) : qK t S l 0 = 0 := by simp [qK, preS_zero]
theorem qK_all {t : Int} {l : List Int} (hS : 0 < l.sum) : qK t l.sum l l.length = t := by
  unfold qK
  rw [preS_all]
  exact Int.mul_ediv_cancel t (by omega)
/-- the sum that the program keeps: it stops at 2^60 -/
def capS (l : List Int) (k : Nat) : Int := if 1152921504606846976 < preS l k then 1152921504606846976 else preS l k
def bigS (l : List Int) (k : Nat) : Bool := decide (1152921504606846976 < preS l k)
theorem cap_step {l : List Int} (h : wOk l) (k : Nat) (hk : k < l.length) : 0 ≤ capS l k ∧ capS l k ≤ 1152921504606846976 ∧
    (1152921504606846976 < capS l k + l[k] → capS l (k + 1) = 1152921504606846976 ∧ bigS l (k + 1) = true) ∧ (capS l k + l[k] ≤ 1152921504606846976 → capS l (k + 1) = capS l k + l[k] ∧ bigS l (k + 1) = bigS l k) := by
  have b := (preS_bd h k (by omega)).1
  have x := h k hk
  have e := preS_succ l k hk
  unfold capS bigS
  rw [e]
  generalize preS l k = p at *
  generalize l[k] = y at *
  by_cases hp : 1152921504606846976 < p
  · rw [if_pos hp]
    refine ⟨by omega, by omega, fun _ => ?_, fun h' => ?_⟩
    · rw [if_pos (by omega)]; exact ⟨rfl, decide_eq_true (by omega)⟩
    · rw [if_pos (by omega)]; exact ⟨by omega, by rw [decide_eq_true (by omega), decide_eq_true hp]⟩
  · rw [if_neg hp]
    refine ⟨by omega, by omega, fun h' => ?_, fun h' => ?_⟩
    · rw [if_pos (by omega)]; exact ⟨rfl, decide_eq_true (by omega)⟩
    · rw [if_neg (by omega)]; exact ⟨rfl, by rw [decide_eq_false (by omega), decide_eq_false hp]⟩
theorem cap_stepK {l : List Int} {k : Nat} (h : ∀ i (h : i < l.length), i < k + 1 → 0 ≤ l[i] ∧ l[i] ≤ 1152921504606846976) (hk : k < l.length) : 0 ≤ capS l k ∧ capS l k ≤ 1152921504606846976 ∧
    (1152921504606846976 < capS l k + l[k] → capS l (k + 1) = 1152921504606846976 ∧ bigS l (k + 1) = true) ∧ (capS l k + l[k] ≤ 1152921504606846976 → capS l (k + 1) = capS l k + l[k] ∧ bigS l (k + 1) = bigS l k) := by
  have hw : wOk (l.take (k + 1)) := fun i hi => by
    rw [List.length_take] at hi
    rw [List.getElem_take]
    exact h i (by omega) (by omega)
  have hlen : (l.take (k + 1)).length = k + 1 := by rw [List.length_take]; omega
  have p0 : preS (l.take (k + 1)) k = preS l k := by unfold preS; rw [List.take_take, Nat.min_eq_left (by omega)]
  have p1 : preS (l.take (k + 1)) (k + 1) = preS l (k + 1) := by unfold preS; rw [List.take_take, Nat.min_self]
  have r := cap_step hw k (by omega)
  unfold capS bigS at *
  rw [p0, p1, List.getElem_take] at r
  exact r
theorem cap_all {l : List Int} : capS l l.length = (if 1152921504606846976 < l.sum then 1152921504606846976 else l.sum) ∧ bigS l l.length = decide (1152921504606846976 < l.sum) := by
  unfold capS bigS
  rw [preS_all]
  exact ⟨rfl, rfl⟩
theorem cap_zero (l : List Int) : capS l 0 = 0 ∧ bigS l 0 = false := by simp [capS, bigS, preS_zero]
/-- the step of the second loop, in natural numbers -/
theorem share_step {T SS : Nat} {l : List Int} (hT : T ≤ 1152921504606846976) (hS : l.sum = (SS : Int)) (h0 : 0 < SS) (hS' : SS ≤ 1152921504606846976) (hw : wOk l) (k : Nat) (hk : k < l.length) :
    ∃ F Q : Nat, preS l (k + 1) = (F : Int) ∧ F ≤ SS ∧ T * F / 18446744073709551616 < SS ∧ T * F % 18446744073709551616 < 18446744073709551616 ∧ (T * F / 18446744073709551616 * 18446744073709551616 + T * F % 18446744073709551616) / SS = Q ∧
      qK (T : Int) (SS : Int) l (k + 1) = (Q : Int) ∧ Q ≤ 1152921504606846976 ∧ 0 ≤ qK (T : Int) (SS : Int) l k ∧ qK (T : Int) (SS : Int) l k ≤ 1152921504606846976 ∧ 0 ≤ preS l k ∧ preS l k ≤ 1152921504606846976 := by
  have b1 := preS_bd hw (k + 1) (by omega)
  have b0 := preS_bd hw k (by omega)
  have m1 := preS_mono hw (show k + 1 ≤ l.length by omega) (Nat.le_refl _)
  have m0 := preS_mono hw (show k ≤ l.length by omega) (Nat.le_refl _)
  rw [preS_all, hS] at m1 m0
  have q0 := qK_bd (t := (T : Int)) (S := (SS : Int)) (by omega) (by omega) hw (by omega) k (by omega)
  obtain ⟨F, hF⟩ : ∃ F : Nat, preS l (k + 1) = (F : Int) := ⟨(preS l (k + 1)).toNat, by omega⟩
  have hFS : F ≤ SS := by omega
  have hm : T * F ≤ 1152921504606846976 * SS := Nat.mul_le_mul hT hFS
  have ej : T * F / 18446744073709551616 * 18446744073709551616 + T * F % 18446744073709551616 = T * F := by omega
  have hq : T * F / SS ≤ T := Nat.div_le_of_le_mul (by rw [Nat.mul_comm SS T]; exact Nat.mul_le_mul_left T hFS)
  refine ⟨F, T * F / SS, hF, hFS, by omega, Nat.mod_lt _ (by decide), by rw [ej], ?_, by omega, by omega, by omega, by omega, by omega⟩
  unfold qK
  rw [hF, ← Int.natCast_mul, ← Int.natCast_ediv]
/-- one bit of the long division: B is the bit, T what is above it -/
theorem bit_and (t i : Nat) : t &&& 2 ^ i = if t / 2 ^ i % 2 = 1 then 2 ^ i else 0 := by
  have e : t.testBit i = decide (t / 2 ^ i % 2 = 1) := Nat.testBit_eq_decide_div_mod_eq
  refine Nat.eq_of_testBit_eq fun j => ?_
  rw [Nat.testBit_and, Nat.testBit_two_pow]
  by_cases h : t / 2 ^ i % 2 = 1
  · rw [if_pos h, Nat.testBit_two_pow]
    by_cases hj : i = j
    · subst hj; simp [e, h]
    · simp [hj]
  · rw [if_neg h, Nat.zero_testBit]
    by_cases hj : i = j
    · subst hj; simp [e, h]
    · simp [hj]
/-- before the round at which the bit is half of P: what is above P's half is divided -/
def PartRel (t : Nat) (p s q r : Int) (P : Nat) : Prop := ∃ j : Nat, P = 2 ^ j ∧ j ≤ 62 ∧ ((t / P : Nat) : Int) * p = q * s + r ∧ 0 ≤ r ∧ r < s ∧ 0 ≤ q
theorem part_start {t : Nat} {p s : Int} (ht : t < 4611686018427387904) (hs : 0 < s) : PartRel t p s 0 0 4611686018427387904 :=
  ⟨62, by decide, by omega, by rw [Nat.div_eq_of_lt ht]; simp, by omega, by omega, by omega⟩
theorem part_end {t : Nat} {p s q r : Int} (hs : 0 < s) (h : PartRel t p s q r 1) : (t : Int) * p / s = q := by
  obtain ⟨j, _, _, e, h0, h1, _⟩ := h
  rw [Nat.div_one] at e
  rw [e, Int.add_comm, Int.add_mul_ediv_right _ _ (by omega), Int.ediv_eq_zero_of_lt h0 h1]
  omega
theorem part_q {t : Nat} {p s q r : Int} {P : Nat} (hp : 0 ≤ p) (hps : p ≤ s) (h : PartRel t p s q r P) : 0 ≤ q ∧ q ≤ t ∧ 0 ≤ r ∧ r < s := by
  obtain ⟨j, eP, _, e, h0, h1, hq⟩ := h
  refine ⟨hq, ?_, h0, h1⟩
  have b1 : ((t / P : Nat) : Int) ≤ t := by have := Nat.div_le_self t P; omega
  have b2 : ((t / P : Nat) : Int) * p ≤ t * p := Int.mul_le_mul_of_nonneg_right b1 hp
  have b3 : (t : Int) * p ≤ t * s := Int.mul_le_mul_of_nonneg_left hps (by omega)
  have b4 : q * s ≤ t * s := by omega
  exact Int.le_of_mul_le_mul_right b4 (by omega)
/-- one round -/
theorem part_round {t : Nat} {p s q r : Int} {P : Nat} (h : PartRel t p s q r P) (hP : 1 < P) : ∃ Q : Nat, P = 2 * Q ∧ 0 < Q ∧ Q ≤ 2305843009213693952 ∧
    (t &&& Q = Q ∨ t &&& Q = 0) ∧ (t &&& Q = Q → ∀ q' r' : Int, q' * s + r' = (2 * q) * s + (2 * r + p) → 0 ≤ r' → r' < s → 0 ≤ q' → PartRel t p s q' r' Q) ∧
    (t &&& Q = 0 → ∀ q' r' : Int, q' * s + r' = (2 * q) * s + 2 * r → 0 ≤ r' → r' < s → 0 ≤ q' → PartRel t p s q' r' Q) := by
  obtain ⟨j, e1, e2, e3, e4, e5, e6⟩ := h
  rcases j with _ | j
  · simp at e1; omega
  have hpow : 2 ^ (j + 1) = 2 * 2 ^ j := by rw [Nat.pow_succ, Nat.mul_comm]
  have hq := Nat.two_pow_pos j
  have hle : 2 ^ j ≤ 2 ^ 61 := Nat.pow_le_pow_right (by omega) (by omega)
  have ed : t / P = t / 2 ^ j / 2 := by rw [e1, hpow, Nat.mul_comm, Nat.div_div_eq_div_mul]
  have ha := bit_and t j
  refine ⟨2 ^ j, by omega, hq, by have : 2 ^ 61 = 2305843009213693952 := by decide
                                  omega, by split at ha <;> omega, fun hb q' r' he h0 h1 h2 => ⟨j, rfl, by omega, ?_, h0, h1, h2⟩, fun hb q' r' he h0 h1 h2 => ⟨j, rfl, by omega, ?_, h0, h1, h2⟩⟩
  · have hm : t / 2 ^ j % 2 = 1 := by split at ha <;> omega
    generalize t / 2 ^ j = T at *
    have eT : (T : Int) = 2 * ((t / P : Nat) : Int) + 1 := by omega
    rw [he, eT]
    generalize ((t / P : Nat) : Int) = U at *
    grind
  · have hm : t / 2 ^ j % 2 = 0 := by split at ha <;> omega
    generalize t / 2 ^ j = T at *
    have eT : (T : Int) = 2 * ((t / P : Nat) : Int) := by omega
    rw [he, eT]
    generalize ((t / P : Nat) : Int) = U at *
    grind
/-- Metres: the error, and the list -/
def meE (l : List Int) : Int := if 1000 < l.length then 4 else if wB l = false then 2 else if 1152921504606846976 < l.sum then 5 else 0
def meL (l : List Int) : List Int := if meE l = 0 then shK (l.sum / 2000000) l.sum l l.length else []
theorem meE_full {l : List Int} (h : 1000 < l.length) : meE l = 4 := by simp [meE, h]
theorem meE_range {l : List Int} (h : l.length ≤ 1000) {k : Nat} (hk : k < l.length) (hx : ¬ (0 ≤ l[k] ∧ l[k] ≤ 1152921504606846976)) : meE l = 2 := by
  have : wB l = false := by
    rcases Bool.eq_false_or_eq_true (wB l) with h1 | h1
    · exact absurd (wB_iff.1 h1 k hk) hx
    · exact h1
  unfold meE; rw [if_neg (by omega), if_pos this]
theorem meE_rest {l : List Int} (h : l.length ≤ 1000) (hw : wOk l) : meE l = if 1152921504606846976 < l.sum then 5 else 0 := by
  unfold meE; rw [if_neg (by omega), if_neg (by rw [wB_iff.2 hw]; simp)]
theorem sum_nonneg {l : List Int} (hw : wOk l) : 0 ≤ l.sum := by
  have := (preS_bd hw l.length (Nat.le_refl _)).1
  rwa [preS_all] at this
/-- nothing at all: zeros -/
theorem shK_none (t : Int) (l : List Int) : ∀ k, shK t 0 l k = List.replicate k 0
  | 0 => rfl
  | k + 1 => by
    rw [shK, shK_none t l k, List.replicate_succ']
    congr 1
    simp [qK]
end Go.Proofs.YtaaadejamjbcbaaGreatDoor

namespace Go.Proofs.YtaaadejamjbcbaaGreatDoor
open Go.RowKit

theorem ret2_int {k k' : IntKind} {a b c d : Int} (h : a = b) (h' : c = d) : Ending.returned (.tuple #[.int k a, .int k' c]) = .returned (.tuple #[.int k b, .int k' d]) := by rw [h, h']
/-- Div64 where the high word is 0 -/
theorem div64_low (l y : Nat) (hl : l < 18446744073709551616) (hy : 0 < y) (hy' : y < 18446744073709551616) (w : World) :
    Calls Tryz.prog 61 #[.int .u64 0, .int .u64 l, .int .u64 y] w fun e w' => e = .returned (.tuple #[.int .u64 ((l / y : Nat) : Int), .int .u64 ((l % y : Nat) : Int)]) ∧ ∃ n, w' = w.drewN n := by
  have g1 : (0 : Int) < (y : Int) := by omega
  have g2 : (y : Int) ≠ 0 := by omega
  have g3 : ((y : Int) == 0) = false := by simp; omega
  go_enter Tryz.func61, Tryz.ntmps61
  go_wp2
  go_quiet (fail)
  go_wp2
  go_ret2
  refine ⟨ret2_int ?_ (by simp), _, rfl⟩
  have hd : l / y ≤ l := Nat.div_le_self _ _
  have e : (l : Int) / (y : Int) = ((l / y : Nat) : Int) := by simp
  rw [e, IntKind.wrap_u64]
  generalize l / y = k at *
  omega
end Go.Proofs.YtaaadejamjbcbaaGreatDoor

namespace Go.Proofs.YtaaadejamjbcbaaGreatDoor.D64
/-- one half step of the division: q estimates N / y, with y = a * 2^32 + b -/
theorem cond_iff {q a b r u n : Nat} (h : q * a + r = u) : (q * b > 4294967296 * r + n) ↔ u * 4294967296 + n < q * (a * 4294967296 + b) := by
  have e : q * (a * 4294967296 + b) = q * a * 4294967296 + q * b := by rw [Nat.mul_add, Nat.mul_assoc]
  rw [e]
  generalize q * a = p at *
  generalize q * b = s at *
  omega
theorem gt_iff {q y N : Nat} (hy : 0 < y) : N / y < q ↔ N < q * y := Nat.div_lt_iff_lt_mul hy
/-- the estimate at the beginning -/
theorem start {u a b : Nat} (ha : 2147483648 ≤ a) (hb : b < 4294967296) (hu : u < a * 4294967296 + b) : u / a * a + u % a = u ∧ u / a ≤ 4294967297 ∧ u % a < a := by
  refine ⟨by rw [Nat.mul_comm]; exact Nat.div_add_mod u a, ?_, Nat.mod_lt _ (by omega)⟩
  have : u / a < 4294967298 := by
    rw [Nat.div_lt_iff_lt_mul (by omega)]
    omega
  omega
theorem start_ge {u a b n : Nat} (ha : 0 < a) (hn : n < 4294967296) : (u * 4294967296 + n) / (a * 4294967296 + b) ≤ u / a := by
  rw [← Nat.lt_add_one_iff, Nat.div_lt_iff_lt_mul (by omega)]
  have h := Nat.div_add_mod u a
  have h2 := Nat.mod_lt u ha
  have e : (u / a + 1) * (a * 4294967296 + b) = (a * (u / a) + a) * 4294967296 + (u / a + 1) * b := by
    rw [Nat.mul_add, ← Nat.mul_assoc, Nat.add_mul (u / a) 1 a, Nat.one_mul, Nat.mul_comm (u / a) a]
  rw [e]
  generalize a * (u / a) = p at *
  generalize (u / a + 1) * b = s at *
  omega
theorem quo_small {u y n : Nat} (hu : u < y) (hn : n < 4294967296) : (u * 4294967296 + n) / y < 4294967296 := by
  rw [Nat.div_lt_iff_lt_mul (by omega)]
  have : (u + 1) * 4294967296 ≤ y * 4294967296 := Nat.mul_le_mul_right _ hu
  omega
/-- what holds at the head of the loop -/
def Rel (u a b n q r : Nat) : Prop := q * a + r = u ∧ (u * 4294967296 + n) / (a * 4294967296 + b) ≤ q ∧ q ≤ 4294967297 ∧ r < 4294967296
theorem Rel.bounds {u a b n q r : Nat} (h : Rel u a b n q r) (hb : b < 4294967296) (hn : n < 4294967296) : q * b ≤ 18446744073709551615 ∧ 4294967296 * r + n ≤ 18446744073709551615 := by
  obtain ⟨_, _, h3, h4⟩ := h
  have := Nat.mul_le_mul h3 (show b ≤ 4294967295 by omega)
  omega
/-- the loop ends: the estimate is the quotient -/
theorem Rel.done {u a b n q r : Nat} (h : Rel u a b n q r) (hy : 0 < a * 4294967296 + b) (hc : ¬ 4294967296 * r + n < q * b) : q = (u * 4294967296 + n) / (a * 4294967296 + b) := by
  obtain ⟨h1, h2, _, _⟩ := h
  have := (cond_iff (b := b) (n := n) h1)
  have k : ¬ (u * 4294967296 + n) / (a * 4294967296 + b) < q := by
    rw [gt_iff hy, ← this]; exact hc
  omega
/-- one step down -/
theorem Rel.down {u a b n q r : Nat} (h : Rel u a b n q r) (hy : 0 < a * 4294967296 + b) (hu : u < a * 4294967296 + b) (hn : n < 4294967296) (ha : a < 4294967296) (hb : b < 4294967296) (hc : 4294967296 ≤ q ∨ 4294967296 * r + n < q * b) :
    1 ≤ q ∧ r + a < 8589934592 ∧ (r + a < 4294967296 → Rel u a b n (q - 1) (r + a)) ∧ (4294967296 ≤ r + a → q - 1 = (u * 4294967296 + n) / (a * 4294967296 + b)) := by
  obtain ⟨h1, h2, h3, h4⟩ := h
  have gt : (u * 4294967296 + n) / (a * 4294967296 + b) < q := by
    rcases hc with hc | hc
    · have := quo_small hu hn; omega
    · rw [gt_iff hy, ← cond_iff h1]; exact hc
  generalize hQ : (u * 4294967296 + n) / (a * 4294967296 + b) = Q at gt h2 ⊢
  obtain ⟨p, rfl⟩ : ∃ p, q = p + 1 := ⟨q - 1, by omega⟩
  have h5 : p * a + (r + a) = u := by rw [Nat.add_mul, Nat.one_mul] at h1; omega
  refine ⟨by omega, by omega, fun hr => ⟨by simpa using h5, by simp only [Nat.add_sub_cancel]; rw [hQ]; exact Nat.lt_succ_iff.1 gt, by simp only [Nat.add_sub_cancel]; omega, hr⟩, fun hr => ?_⟩
  have k : ¬ Q < p := by
    rw [← hQ, gt_iff hy, ← cond_iff h5]
    have := Nat.mul_le_mul (show p ≤ 4294967296 by omega) (show b ≤ 4294967295 by omega)
    omega
  simp only [Nat.add_sub_cancel]
  omega
/-- what is left, reckoned in a word -/
theorem rest_word {u y n q : Nat} (hy : 0 < y) (hy' : y < 18446744073709551616) (hq : q = (u * 4294967296 + n) / y) : ((u * 4294967296 + n : Nat) - (q * y : Nat) : Int) % 18446744073709551616 = (((u * 4294967296 + n) % y : Nat) : Int) := by
  have h := Nat.div_add_mod (u * 4294967296 + n) y
  have h2 := Nat.mod_lt (u * 4294967296 + n) hy
  have e : q * y = y * ((u * 4294967296 + n) / y) := by rw [hq, Nat.mul_comm]
  rw [e]
  generalize y * ((u * 4294967296 + n) / y) = p at *
  generalize (u * 4294967296 + n) % y = r at *
  rw [← h]
  have e2 : (((p + r : Nat) : Int) - (p : Nat)) = (r : Int) := by omega
  rw [e2, Int.emod_eq_of_lt (by omega) (by omega)]
/-- two half steps make the whole one -/
theorem two_steps {N n y : Nat} (hy : 0 < y) : (N * 4294967296 + n) / y = N / y * 4294967296 + (N % y * 4294967296 + n) / y ∧
    (N * 4294967296 + n) % y = (N % y * 4294967296 + n) % y := by
  have h := Nat.div_add_mod N y
  have e : N * 4294967296 + n = N / y * 4294967296 * y + (N % y * 4294967296 + n) := by
    have : N / y * 4294967296 * y = y * (N / y) * 4294967296 := by rw [Nat.mul_right_comm, Nat.mul_comm (N / y) y]
    rw [this]
    generalize y * (N / y) = p at *
    omega
  constructor
  · rw [e, Nat.mul_comm _ y, Nat.mul_add_div hy]
  · rw [e, Nat.mul_comm _ y, Nat.mul_add_mod]
theorem shift_div {v y p : Nat} (hp : 0 < p) : v * p / (y * p) = v / y ∧ v * p % (y * p) / p = v % y := by
  refine ⟨Nat.mul_div_mul_right v y hp, ?_⟩
  rw [Nat.mul_mod_mul_right, Nat.mul_div_cancel _ hp]
/-- the shift that brings the divisor's first bit to the top -/
theorem shift_parts {h l y c : Nat} (hc1 : 1 ≤ c) (hc2 : c ≤ 64) (b1 : 2 ^ (c - 1) ≤ y) (b2 : y < 2 ^ c) (hh : h < y) (hl : l < 18446744073709551616) :
    9223372036854775808 ≤ y * 2 ^ (64 - c) ∧ y * 2 ^ (64 - c) < 18446744073709551616 ∧ h * 2 ^ (64 - c) < 18446744073709551616 ∧ (h * 2 ^ (64 - c) ||| l / 2 ^ c) = h * 2 ^ (64 - c) + l / 2 ^ c ∧
    (h * 2 ^ (64 - c) + l / 2 ^ c) * 18446744073709551616 + l * 2 ^ (64 - c) % 18446744073709551616 = (h * 18446744073709551616 + l) * 2 ^ (64 - c) ∧
    h * 2 ^ (64 - c) + l / 2 ^ c < y * 2 ^ (64 - c) := by
  have e1 : 2 ^ (c - 1) * 2 ^ (64 - c) = 9223372036854775808 := by
    rw [← Nat.pow_add, show c - 1 + (64 - c) = 63 by omega]
  have e2 : 2 ^ c * 2 ^ (64 - c) = 18446744073709551616 := by
    rw [← Nat.pow_add, show c + (64 - c) = 64 by omega]
  have hP : 0 < 2 ^ (64 - c) := Nat.two_pow_pos _
  have hC : 0 < 2 ^ c := Nat.two_pow_pos _
  have g1 : 9223372036854775808 ≤ y * 2 ^ (64 - c) := by rw [← e1]; exact Nat.mul_le_mul_right _ b1
  have g2 : y * 2 ^ (64 - c) < 18446744073709551616 := by rw [← e2]; exact Nat.mul_lt_mul_of_pos_right b2 hP
  have g3 : h * 2 ^ (64 - c) < y * 2 ^ (64 - c) := Nat.mul_lt_mul_of_pos_right hh hP
  have g4 : l / 2 ^ c < 2 ^ (64 - c) := by
    rw [Nat.div_lt_iff_lt_mul hC, Nat.mul_comm, e2]; exact hl
  have g5 : (h * 2 ^ (64 - c) ||| l / 2 ^ c) = h * 2 ^ (64 - c) + l / 2 ^ c := by
    have := Nat.two_pow_add_eq_or_of_lt (i := 64 - c) (b := l / 2 ^ c) g4 h
    rw [Nat.mul_comm (2 ^ (64 - c)) h] at this
    exact this.symm
  have g6 : l * 2 ^ (64 - c) / 18446744073709551616 = l / 2 ^ c := by
    rw [← e2]; exact Nat.mul_div_mul_right l (2 ^ c) hP
  have g7 := Nat.div_add_mod (l * 2 ^ (64 - c)) 18446744073709551616
  rw [g6] at g7
  have g8 : (h * 2 ^ (64 - c) + l / 2 ^ c) * 18446744073709551616 + l * 2 ^ (64 - c) % 18446744073709551616 = (h * 18446744073709551616 + l) * 2 ^ (64 - c) := by
    rw [Nat.add_mul (h * 18446744073709551616) l, Nat.mul_right_comm h 18446744073709551616]
    generalize h * 2 ^ (64 - c) = x at *
    generalize l / 2 ^ c = z at *
    generalize l * 2 ^ (64 - c) = t at *
    omega
  refine ⟨g1, g2, by omega, g5, g8, ?_⟩
  have g9 : (h * 18446744073709551616 + l) * 2 ^ (64 - c) < y * 2 ^ (64 - c) * 18446744073709551616 := by
    have : h * 18446744073709551616 + l < y * 18446744073709551616 := by
      have := Nat.mul_le_mul_right 18446744073709551616 hh
      omega
    have := Nat.mul_lt_mul_of_pos_right this hP
    rw [Nat.mul_right_comm y 18446744073709551616] at this
    exact this
  rw [← g8] at g9
  generalize h * 2 ^ (64 - c) + l / 2 ^ c = x at *
  generalize y * 2 ^ (64 - c) = z at *
  omega
end Go.Proofs.YtaaadejamjbcbaaGreatDoor.D64

namespace Go.Proofs.YtaaadejamjbcbaaGreatDoor
open Go.RowKit

theorem bitLen_bd : ∀ (k x : Nat), x < 2 ^ k → k ≤ 64 → 0 < x → 1 ≤ Lib.bitLen x ∧ 2 ^ (Lib.bitLen x - 1) ≤ x ∧ x < 2 ^ Lib.bitLen x
  | 0, x, h, _, h0 => by simp at h; omega
  | k + 1, x, h, hk, h0 => by
    have h64 : x < 2 ^ 64 := Nat.lt_of_lt_of_le h (Nat.pow_le_pow_right (by omega) hk)
    rw [Lib.bitLen_half x (by omega) h64]
    rcases Nat.eq_zero_or_pos (x / 2) with h1 | h1
    · have : x = 1 := by omega
      subst this
      decide
    · have hs : x / 2 < 2 ^ k := by rw [Nat.pow_succ] at h; omega
      obtain ⟨i1, i2, i3⟩ := bitLen_bd k (x / 2) hs (by omega) h1
      generalize Lib.bitLen (x / 2) = n at *
      obtain ⟨m, rfl⟩ : ∃ m, n = m + 1 := ⟨n - 1, by omega⟩
      have e1 : 2 ^ (1 + (m + 1) - 1) = 2 ^ m * 2 := by rw [show 1 + (m + 1) - 1 = m + 1 by omega, Nat.pow_succ]
      have e2 : 2 ^ (1 + (m + 1)) = 2 ^ (m + 1) * 2 := by rw [Nat.add_comm, Nat.pow_succ]
      simp only [Nat.add_sub_cancel] at i2
      refine ⟨by omega, ?_, ?_⟩
      · rw [e1]; omega
      · rw [e2]; omega
set_option maxRecDepth 100000 in
set_option maxHeartbeats 16000000 in
theorem div64_core (h l y s s' Y a b H L u V m n q0 p0 r0 k1 k2 k3 v q2 p2 r2 z1 z2 j1 j2 j3 j4 rem Q Q2 : Nat) (g5 : decide (y ≤ h) = false) (g3 : ((y : Int) == 0) = false) (g4 : ((h : Int) == 0) = false) (w : World)
    (LZ : Calls Tryz.prog 84 #[.int .u64 (y : Int)] w fun e w' => e = .returned (.int .i64 (s : Int)) ∧ w' = w)
    (s1 : s < 64) (E1 : IntKind.u64.wrap (s : Int) = (s : Int)) (E2 : min s 64 = s) (E3 : IntKind.u64.wrap ((y : Int) * 2 ^ s) = (Y : Int)) (E4 : (Y : Int) / 4294967296 = (a : Int)) (E5 : bits .and .u64 (Y : Int) 4294967295 = (b : Int))
    (E6 : IntKind.u64.wrap ((h : Int) * 2 ^ s) = (H : Int)) (E7 : IntKind.u64.wrap (64 - (s : Int)) = (s' : Int)) (E8 : min s' 64 = s') (E9 : (l : Int) / 2 ^ s' = (L : Int)) (E10 : bits .or .u64 (H : Int) (L : Int) = (u : Int))
    (E11 : IntKind.u64.wrap ((l : Int) * 2 ^ s) = (V : Int)) (E12 : (V : Int) / 4294967296 = (m : Int)) (E13 : bits .and .u64 (V : Int) 4294967295 = (n : Int))
    (a1 : 2147483648 ≤ a) (a2 : a < 4294967296) (b2 : b < 4294967296) (m2 : m < 4294967296) (n2 : n < 4294967296)
    (E14 : (u : Int) / (a : Int) = (q0 : Int)) (E14' : IntKind.u64.wrap (q0 : Int) = (q0 : Int)) (E15 : IntKind.u64.wrap ((q0 : Int) * (a : Int)) = (p0 : Int)) (E16 : IntKind.u64.wrap ((u : Int) - (p0 : Int)) = (r0 : Int))
    (R1 : D64.Rel u a b m q0 r0) (uY : Hid (u < a * 4294967296 + b)) (HQ : Hid (Q = (u * 4294967296 + m) / (a * 4294967296 + b)))
    (F1 : IntKind.u64.wrap ((u : Int) * 4294967296) = (k1 : Int)) (F2 : IntKind.u64.wrap ((k1 : Int) + (m : Int)) = (k2 : Int)) (F3 : IntKind.u64.wrap ((Q : Int) * (Y : Int)) = (k3 : Int)) (F4 : IntKind.u64.wrap ((k2 : Int) - (k3 : Int)) = (v : Int))
    (F5 : (v : Int) / (a : Int) = (q2 : Int)) (F5' : IntKind.u64.wrap (q2 : Int) = (q2 : Int)) (F6 : IntKind.u64.wrap ((q2 : Int) * (a : Int)) = (p2 : Int)) (F7 : IntKind.u64.wrap ((v : Int) - (p2 : Int)) = (r2 : Int))
    (R2 : D64.Rel v a b n q2 r2) (vY : Hid (v < a * 4294967296 + b)) (HQ2 : Hid (Q2 = (v * 4294967296 + n) / (a * 4294967296 + b)))
    (G1 : IntKind.u64.wrap ((Q : Int) * 4294967296) = (z1 : Int)) (G2 : IntKind.u64.wrap ((z1 : Int) + (Q2 : Int)) = (z2 : Int))
    (G3 : IntKind.u64.wrap ((v : Int) * 4294967296) = (j1 : Int)) (G4 : IntKind.u64.wrap ((j1 : Int) + (n : Int)) = (j2 : Int)) (G5 : IntKind.u64.wrap ((Q2 : Int) * (Y : Int)) = (j3 : Int)) (G6 : IntKind.u64.wrap ((j2 : Int) - (j3 : Int)) = (j4 : Int)) (G7 : (j4 : Int) / 2 ^ s = (rem : Int)) :
    Calls Tryz.prog 61 #[.int .u64 h, .int .u64 l, .int .u64 y] w fun e w' => e = .returned (.tuple #[.int .u64 (z2 : Int), .int .u64 (rem : Int)]) ∧ w = w' := by
  have a0 : a ≠ 0 := by omega
  have a3 : ((a : Int) == 0) = false := by simp; omega
  have a4 : (0 : Int) < (a : Int) := by omega
  have HR1 := hide R1
  have HR2 := hide R2
  clear R1 R2
  go_enter Tryz.func61, Tryz.ntmps61
  go_wp2_with fail
  refine LZ.mono ?_
  rintro e w' ⟨rfl, rfl⟩
  go_wp2
  go_loop [15, 16] (fun vq v16 => ∃ q r : Nat, vq = .int .u64 q ∧ v16 = .int .u64 r ∧ Hid (D64.Rel u a b m q r)) (fun vq _ => (intOf vq).toNat)
  case atStart => exact ⟨_, _, rfl, rfl, HR1.out⟩
  case round =>
    obtain ⟨q, r, rfl, rfl, hrel⟩ := hrel
    have bd := hrel.out.bounds b2 m2
    have q4 := hrel.out.2.2.1
    have r4 := hrel.out.2.2.2
    obtain ⟨x, hx⟩ : ∃ x : Nat, x = q * b := ⟨_, rfl⟩
    have W1 : IntKind.u64.wrap ((q : Int) * (b : Int)) = (x : Int) := by rw [IntKind.wrap_u64, hx, ← Int.natCast_mul]; rw [← hx] at bd ⊢; omega
    have W2 : IntKind.u64.wrap (4294967296 * (r : Int)) = ((4294967296 * r : Nat) : Int) := by rw [IntKind.wrap_u64]; omega
    obtain ⟨r', hr'⟩ : ∃ r' : Nat, r' = 4294967296 * r := ⟨_, rfl⟩
    rw [← hr'] at W2
    obtain ⟨tt, htt⟩ : ∃ tt : Nat, tt = r' + m := ⟨_, rfl⟩
    have W3 : IntKind.u64.wrap ((r' : Int) + (m : Int)) = (tt : Int) := by rw [IntKind.wrap_u64]; omega
    have W5 : IntKind.u64.wrap ((r : Int) + (a : Int)) = ((r + a : Nat) : Int) := by rw [IntKind.wrap_u64]; omega
    obtain ⟨ra, hra⟩ : ∃ ra : Nat, ra = r + a := ⟨_, rfl⟩
    rw [← hra] at W5
    have hc : (4294967296 ≤ q) ∨ (q < 4294967296 ∧ tt < x) ∨ (q < 4294967296 ∧ x ≤ tt) := by omega
    have HX := hide hx
    have HT := hide htt
    have HR' := hide hr'
    have HRA := hide hra
    have QI := q4
    clear bd hx htt hr' hra
    rcases hc with hc | ⟨hc, hc'⟩ | ⟨hc, hc'⟩
    · have dn := hrel.out.down (by omega) uY.out m2 a2 b2 (.inl hc)
      rw [← HRA.out] at dn
      obtain ⟨d1, d2, d3, d4⟩ := dn
      have W4 : IntKind.u64.wrap ((q : Int) - 1) = ((q - 1 : Nat) : Int) := by rw [IntKind.wrap_u64]; omega
      obtain ⟨qm, hqm⟩ : ∃ qm : Nat, qm = q - 1 := ⟨_, rfl⟩
      rw [← hqm] at W4 d3 d4
      have HQM := hide hqm
      have D3 := hide d3
      have D4 := hide d4
      have t1 : decide (4294967296 ≤ q) = true := by simp; omega
      have t1' : decide ((4294967296 : Int) ≤ (q : Int)) = true := by simp; omega
      have md : Hid (qm < q) := hide (by omega)
      clear hqm d3 d4 d1 d2 q4 r4
      rcases Nat.lt_or_ge ra 4294967296 with hb4 | hb4
      · have t3 : decide (4294967296 ≤ ra) = false := by simp; omega
        have t3' : decide ((4294967296 : Int) ≤ (ra : Int)) = false := by simp; omega
        go_wp2
        go_round
        case rel => exact ⟨qm, ra, rfl, rfl, D3.out hb4⟩
        case measure => have := md.out; simp [intOf]; omega
      · have t3 : decide (4294967296 ≤ ra) = true := by simp; omega
        have t3' : decide ((4294967296 : Int) ≤ (ra : Int)) = true := by simp; omega
        obtain rfl : qm = Q := (D4.out hb4).trans HQ.out.symm
        clear D3 D4
        go_wp2
        go_loop [18, 16] (fun vq v16 => ∃ q r : Nat, vq = .int .u64 q ∧ v16 = .int .u64 r ∧ Hid (D64.Rel v a b n q r)) (fun vq _ => (intOf vq).toNat)
        case atStart => exact ⟨_, _, rfl, rfl, HR2.out⟩
        case round =>
          obtain ⟨q, r, rfl, rfl, hrel⟩ := hrel
          have bd := hrel.out.bounds b2 n2
          have q4 := hrel.out.2.2.1
          have r4 := hrel.out.2.2.2
          obtain ⟨x, hx⟩ : ∃ x : Nat, x = q * b := ⟨_, rfl⟩
          have W1 : IntKind.u64.wrap ((q : Int) * (b : Int)) = (x : Int) := by rw [IntKind.wrap_u64, hx, ← Int.natCast_mul]; rw [← hx] at bd ⊢; omega
          have W2 : IntKind.u64.wrap (4294967296 * (r : Int)) = ((4294967296 * r : Nat) : Int) := by rw [IntKind.wrap_u64]; omega
          obtain ⟨r', hr'⟩ : ∃ r' : Nat, r' = 4294967296 * r := ⟨_, rfl⟩
          rw [← hr'] at W2
          obtain ⟨tt, htt⟩ : ∃ tt : Nat, tt = r' + n := ⟨_, rfl⟩
          have W3 : IntKind.u64.wrap ((r' : Int) + (n : Int)) = (tt : Int) := by rw [IntKind.wrap_u64]; omega
          have W5 : IntKind.u64.wrap ((r : Int) + (a : Int)) = ((r + a : Nat) : Int) := by rw [IntKind.wrap_u64]; omega
          obtain ⟨ra, hra⟩ : ∃ ra : Nat, ra = r + a := ⟨_, rfl⟩
          rw [← hra] at W5
          have hc : (4294967296 ≤ q) ∨ (q < 4294967296 ∧ tt < x) ∨ (q < 4294967296 ∧ x ≤ tt) := by omega
          have HX := hide hx
          have HT := hide htt
          have HR' := hide hr'
          have HRA := hide hra
          have QI := q4
          clear bd hx htt hr' hra
          rcases hc with hc | ⟨hc, hc'⟩ | ⟨hc, hc'⟩
          · have dn := hrel.out.down (by omega) vY.out n2 a2 b2 (.inl hc)
            rw [← HRA.out] at dn
            obtain ⟨d1, d2, d3, d4⟩ := dn
            have W4 : IntKind.u64.wrap ((q : Int) - 1) = ((q - 1 : Nat) : Int) := by rw [IntKind.wrap_u64]; omega
            obtain ⟨qm, hqm⟩ : ∃ qm : Nat, qm = q - 1 := ⟨_, rfl⟩
            rw [← hqm] at W4 d3 d4
            have HQM := hide hqm
            have D3 := hide d3
            have D4 := hide d4
            have t1 : decide (4294967296 ≤ q) = true := by simp; omega
            have t1' : decide ((4294967296 : Int) ≤ (q : Int)) = true := by simp; omega
            have md : Hid (qm < q) := hide (by omega)
            clear hqm d3 d4 d1 d2 q4 r4
            rcases Nat.lt_or_ge ra 4294967296 with hb4 | hb4
            · have t3 : decide (4294967296 ≤ ra) = false := by simp; omega
              have t3' : decide ((4294967296 : Int) ≤ (ra : Int)) = false := by simp; omega
              go_wp2
              go_round
              case rel => exact ⟨qm, ra, rfl, rfl, D3.out hb4⟩
              case measure => have := md.out; simp [intOf]; omega
            · have t3 : decide (4294967296 ≤ ra) = true := by simp; omega
              have t3' : decide ((4294967296 : Int) ≤ (ra : Int)) = true := by simp; omega
              obtain rfl : qm = Q2 := (D4.out hb4).trans HQ2.out.symm
              clear D3 D4
              go_wp2
              go_ret2
              exact ⟨rfl, rfl⟩
          · have dn := hrel.out.down (by omega) vY.out n2 a2 b2 (.inr (by rw [← HX.out, ← HR'.out, ← HT.out]; exact hc'))
            rw [← HRA.out] at dn
            obtain ⟨d1, d2, d3, d4⟩ := dn
            have W4 : IntKind.u64.wrap ((q : Int) - 1) = ((q - 1 : Nat) : Int) := by rw [IntKind.wrap_u64]; omega
            obtain ⟨qm, hqm⟩ : ∃ qm : Nat, qm = q - 1 := ⟨_, rfl⟩
            rw [← hqm] at W4 d3 d4
            have HQM := hide hqm
            have D3 := hide d3
            have D4 := hide d4
            have t1 : decide (4294967296 ≤ q) = false := by simp; omega
            have t1' : decide ((4294967296 : Int) ≤ (q : Int)) = false := by simp; omega
            have t2 : decide (tt < x) = true := by simp; omega
            have md : Hid (qm < q) := hide (by omega)
            clear hqm d3 d4 d1 d2 q4 r4
            rcases Nat.lt_or_ge ra 4294967296 with hb4 | hb4
            · have t3 : decide (4294967296 ≤ ra) = false := by simp; omega
              have t3' : decide ((4294967296 : Int) ≤ (ra : Int)) = false := by simp; omega
              go_wp2
              go_round
              case rel => exact ⟨qm, ra, rfl, rfl, D3.out hb4⟩
              case measure => have := md.out; simp [intOf]; omega
            · have t3 : decide (4294967296 ≤ ra) = true := by simp; omega
              have t3' : decide ((4294967296 : Int) ≤ (ra : Int)) = true := by simp; omega
              obtain rfl : qm = Q2 := (D4.out hb4).trans HQ2.out.symm
              clear D3 D4
              go_wp2
              go_ret2
              exact ⟨rfl, rfl⟩
          · have dn := hide (hrel.out.done (by omega) (by rw [← HX.out, ← HR'.out, ← HT.out]; omega))
            have t1 : decide (4294967296 ≤ q) = false := by simp; omega
            have t1' : decide ((4294967296 : Int) ≤ (q : Int)) = false := by simp; omega
            have t2 : decide (tt < x) = false := by simp; omega
            obtain rfl : q = Q2 := dn.out.trans HQ2.out.symm
            clear q4 r4
            go_wp2
            go_ret2
            exact ⟨rfl, rfl⟩
    · have dn := hrel.out.down (by omega) uY.out m2 a2 b2 (.inr (by rw [← HX.out, ← HR'.out, ← HT.out]; exact hc'))
      rw [← HRA.out] at dn
      obtain ⟨d1, d2, d3, d4⟩ := dn
      have W4 : IntKind.u64.wrap ((q : Int) - 1) = ((q - 1 : Nat) : Int) := by rw [IntKind.wrap_u64]; omega
      obtain ⟨qm, hqm⟩ : ∃ qm : Nat, qm = q - 1 := ⟨_, rfl⟩
      rw [← hqm] at W4 d3 d4
      have HQM := hide hqm
      have D3 := hide d3
      have D4 := hide d4
      have t1 : decide (4294967296 ≤ q) = false := by simp; omega
      have t1' : decide ((4294967296 : Int) ≤ (q : Int)) = false := by simp; omega
      have t2 : decide (tt < x) = true := by simp; omega
      have md : Hid (qm < q) := hide (by omega)
      clear hqm d3 d4 d1 d2 q4 r4
      rcases Nat.lt_or_ge ra 4294967296 with hb4 | hb4
      · have t3 : decide (4294967296 ≤ ra) = false := by simp; omega
        have t3' : decide ((4294967296 : Int) ≤ (ra : Int)) = false := by simp; omega
        go_wp2
        go_round
        case rel => exact ⟨qm, ra, rfl, rfl, D3.out hb4⟩
        case measure => have := md.out; simp [intOf]; omega
      · have t3 : decide (4294967296 ≤ ra) = true := by simp; omega
        have t3' : decide ((4294967296 : Int) ≤ (ra : Int)) = true := by simp; omega
        obtain rfl : qm = Q := (D4.out hb4).trans HQ.out.symm
        clear D3 D4
        go_wp2
        go_loop [18, 16] (fun vq v16 => ∃ q r : Nat, vq = .int .u64 q ∧ v16 = .int .u64 r ∧ Hid (D64.Rel v a b n q r)) (fun vq _ => (intOf vq).toNat)
        case atStart => exact ⟨_, _, rfl, rfl, HR2.out⟩
        case round =>
          obtain ⟨q, r, rfl, rfl, hrel⟩ := hrel
          have bd := hrel.out.bounds b2 n2
          have q4 := hrel.out.2.2.1
          have r4 := hrel.out.2.2.2
          obtain ⟨x, hx⟩ : ∃ x : Nat, x = q * b := ⟨_, rfl⟩
          have W1 : IntKind.u64.wrap ((q : Int) * (b : Int)) = (x : Int) := by rw [IntKind.wrap_u64, hx, ← Int.natCast_mul]; rw [← hx] at bd ⊢; omega
          have W2 : IntKind.u64.wrap (4294967296 * (r : Int)) = ((4294967296 * r : Nat) : Int) := by rw [IntKind.wrap_u64]; omega
          obtain ⟨r', hr'⟩ : ∃ r' : Nat, r' = 4294967296 * r := ⟨_, rfl⟩
          rw [← hr'] at W2
          obtain ⟨tt, htt⟩ : ∃ tt : Nat, tt = r' + n := ⟨_, rfl⟩
          have W3 : IntKind.u64.wrap ((r' : Int) + (n : Int)) = (tt : Int) := by rw [IntKind.wrap_u64]; omega
          have W5 : IntKind.u64.wrap ((r : Int) + (a : Int)) = ((r + a : Nat) : Int) := by rw [IntKind.wrap_u64]; omega
          obtain ⟨ra, hra⟩ : ∃ ra : Nat, ra = r + a := ⟨_, rfl⟩
          rw [← hra] at W5
          have hc : (4294967296 ≤ q) ∨ (q < 4294967296 ∧ tt < x) ∨ (q < 4294967296 ∧ x ≤ tt) := by omega
          have HX := hide hx
          have HT := hide htt
          have HR' := hide hr'
          have HRA := hide hra
          have QI := q4
          clear bd hx htt hr' hra
          rcases hc with hc | ⟨hc, hc'⟩ | ⟨hc, hc'⟩
          · have dn := hrel.out.down (by omega) vY.out n2 a2 b2 (.inl hc)
            rw [← HRA.out] at dn
            obtain ⟨d1, d2, d3, d4⟩ := dn
            have W4 : IntKind.u64.wrap ((q : Int) - 1) = ((q - 1 : Nat) : Int) := by rw [IntKind.wrap_u64]; omega
            obtain ⟨qm, hqm⟩ : ∃ qm : Nat, qm = q - 1 := ⟨_, rfl⟩
            rw [← hqm] at W4 d3 d4
            have HQM := hide hqm
            have D3 := hide d3
            have D4 := hide d4
            have t1 : decide (4294967296 ≤ q) = true := by simp; omega
            have t1' : decide ((4294967296 : Int) ≤ (q : Int)) = true := by simp; omega
            have md : Hid (qm < q) := hide (by omega)
            clear hqm d3 d4 d1 d2 q4 r4
            rcases Nat.lt_or_ge ra 4294967296 with hb4 | hb4
            · have t3 : decide (4294967296 ≤ ra) = false := by simp; omega
              have t3' : decide ((4294967296 : Int) ≤ (ra : Int)) = false := by simp; omega
              go_wp2
              go_round
              case rel => exact ⟨qm, ra, rfl, rfl, D3.out hb4⟩
              case measure => have := md.out; simp [intOf]; omega
            · have t3 : decide (4294967296 ≤ ra) = true := by simp; omega
              have t3' : decide ((4294967296 : Int) ≤ (ra : Int)) = true := by simp; omega
              obtain rfl : qm = Q2 := (D4.out hb4).trans HQ2.out.symm
              clear D3 D4
              go_wp2
              go_ret2
              exact ⟨rfl, rfl⟩
          · have dn := hrel.out.down (by omega) vY.out n2 a2 b2 (.inr (by rw [← HX.out, ← HR'.out, ← HT.out]; exact hc'))
            rw [← HRA.out] at dn
            obtain ⟨d1, d2, d3, d4⟩ := dn
            have W4 : IntKind.u64.wrap ((q : Int) - 1) = ((q - 1 : Nat) : Int) := by rw [IntKind.wrap_u64]; omega
            obtain ⟨qm, hqm⟩ : ∃ qm : Nat, qm = q - 1 := ⟨_, rfl⟩
            rw [← hqm] at W4 d3 d4
            have HQM := hide hqm
            have D3 := hide d3
            have D4 := hide d4
            have t1 : decide (4294967296 ≤ q) = false := by simp; omega
            have t1' : decide ((4294967296 : Int) ≤ (q : Int)) = false := by simp; omega
            have t2 : decide (tt < x) = true := by simp; omega
            have md : Hid (qm < q) := hide (by omega)
            clear hqm d3 d4 d1 d2 q4 r4
            rcases Nat.lt_or_ge ra 4294967296 with hb4 | hb4
            · have t3 : decide (4294967296 ≤ ra) = false := by simp; omega
              have t3' : decide ((4294967296 : Int) ≤ (ra : Int)) = false := by simp; omega
              go_wp2
              go_round
              case rel => exact ⟨qm, ra, rfl, rfl, D3.out hb4⟩
              case measure => have := md.out; simp [intOf]; omega
            · have t3 : decide (4294967296 ≤ ra) = true := by simp; omega
              have t3' : decide ((4294967296 : Int) ≤ (ra : Int)) = true := by simp; omega
              obtain rfl : qm = Q2 := (D4.out hb4).trans HQ2.out.symm
              clear D3 D4
              go_wp2
              go_ret2
              exact ⟨rfl, rfl⟩
          · have dn := hide (hrel.out.done (by omega) (by rw [← HX.out, ← HR'.out, ← HT.out]; omega))
            have t1 : decide (4294967296 ≤ q) = false := by simp; omega
            have t1' : decide ((4294967296 : Int) ≤ (q : Int)) = false := by simp; omega
            have t2 : decide (tt < x) = false := by simp; omega
            obtain rfl : q = Q2 := dn.out.trans HQ2.out.symm
            clear q4 r4
            go_wp2
            go_ret2
            exact ⟨rfl, rfl⟩
    · have dn := hide (hrel.out.done (by omega) (by rw [← HX.out, ← HR'.out, ← HT.out]; omega))
      have t1 : decide (4294967296 ≤ q) = false := by simp; omega
      have t1' : decide ((4294967296 : Int) ≤ (q : Int)) = false := by simp; omega
      have t2 : decide (tt < x) = false := by simp; omega
      obtain rfl : q = Q := dn.out.trans HQ.out.symm
      clear q4 r4
      go_wp2
      go_loop [18, 16] (fun vq v16 => ∃ q r : Nat, vq = .int .u64 q ∧ v16 = .int .u64 r ∧ Hid (D64.Rel v a b n q r)) (fun vq _ => (intOf vq).toNat)
      case atStart => exact ⟨_, _, rfl, rfl, HR2.out⟩
      case round =>
        obtain ⟨q, r, rfl, rfl, hrel⟩ := hrel
        have bd := hrel.out.bounds b2 n2
        have q4 := hrel.out.2.2.1
        have r4 := hrel.out.2.2.2
        obtain ⟨x, hx⟩ : ∃ x : Nat, x = q * b := ⟨_, rfl⟩
        have W1 : IntKind.u64.wrap ((q : Int) * (b : Int)) = (x : Int) := by rw [IntKind.wrap_u64, hx, ← Int.natCast_mul]; rw [← hx] at bd ⊢; omega
        have W2 : IntKind.u64.wrap (4294967296 * (r : Int)) = ((4294967296 * r : Nat) : Int) := by rw [IntKind.wrap_u64]; omega
        obtain ⟨r', hr'⟩ : ∃ r' : Nat, r' = 4294967296 * r := ⟨_, rfl⟩
        rw [← hr'] at W2
        obtain ⟨tt, htt⟩ : ∃ tt : Nat, tt = r' + n := ⟨_, rfl⟩
        have W3 : IntKind.u64.wrap ((r' : Int) + (n : Int)) = (tt : Int) := by rw [IntKind.wrap_u64]; omega
        have W5 : IntKind.u64.wrap ((r : Int) + (a : Int)) = ((r + a : Nat) : Int) := by rw [IntKind.wrap_u64]; omega
        obtain ⟨ra, hra⟩ : ∃ ra : Nat, ra = r + a := ⟨_, rfl⟩
        rw [← hra] at W5
        have hc : (4294967296 ≤ q) ∨ (q < 4294967296 ∧ tt < x) ∨ (q < 4294967296 ∧ x ≤ tt) := by omega
        have HX := hide hx
        have HT := hide htt
        have HR' := hide hr'
        have HRA := hide hra
        have QI := q4
        clear bd hx htt hr' hra
        rcases hc with hc | ⟨hc, hc'⟩ | ⟨hc, hc'⟩
        · have dn := hrel.out.down (by omega) vY.out n2 a2 b2 (.inl hc)
          rw [← HRA.out] at dn
          obtain ⟨d1, d2, d3, d4⟩ := dn
          have W4 : IntKind.u64.wrap ((q : Int) - 1) = ((q - 1 : Nat) : Int) := by rw [IntKind.wrap_u64]; omega
          obtain ⟨qm, hqm⟩ : ∃ qm : Nat, qm = q - 1 := ⟨_, rfl⟩
          rw [← hqm] at W4 d3 d4
          have HQM := hide hqm
          have D3 := hide d3
          have D4 := hide d4
          have t1 : decide (4294967296 ≤ q) = true := by simp; omega
          have t1' : decide ((4294967296 : Int) ≤ (q : Int)) = true := by simp; omega
          have md : Hid (qm < q) := hide (by omega)
          clear hqm d3 d4 d1 d2 q4 r4
          rcases Nat.lt_or_ge ra 4294967296 with hb4 | hb4
          · have t3 : decide (4294967296 ≤ ra) = false := by simp; omega
            have t3' : decide ((4294967296 : Int) ≤ (ra : Int)) = false := by simp; omega
            go_wp2
            go_round
            case rel => exact ⟨qm, ra, rfl, rfl, D3.out hb4⟩
            case measure => have := md.out; simp [intOf]; omega
          · have t3 : decide (4294967296 ≤ ra) = true := by simp; omega
            have t3' : decide ((4294967296 : Int) ≤ (ra : Int)) = true := by simp; omega
            obtain rfl : qm = Q2 := (D4.out hb4).trans HQ2.out.symm
            clear D3 D4
            go_wp2
            go_ret2
            exact ⟨rfl, rfl⟩
        · have dn := hrel.out.down (by omega) vY.out n2 a2 b2 (.inr (by rw [← HX.out, ← HR'.out, ← HT.out]; exact hc'))
          rw [← HRA.out] at dn
          obtain ⟨d1, d2, d3, d4⟩ := dn
          have W4 : IntKind.u64.wrap ((q : Int) - 1) = ((q - 1 : Nat) : Int) := by rw [IntKind.wrap_u64]; omega
          obtain ⟨qm, hqm⟩ : ∃ qm : Nat, qm = q - 1 := ⟨_, rfl⟩
          rw [← hqm] at W4 d3 d4
          have HQM := hide hqm
          have D3 := hide d3
          have D4 := hide d4
          have t1 : decide (4294967296 ≤ q) = false := by simp; omega
          have t1' : decide ((4294967296 : Int) ≤ (q : Int)) = false := by simp; omega
          have t2 : decide (tt < x) = true := by simp; omega
          have md : Hid (qm < q) := hide (by omega)
          clear hqm d3 d4 d1 d2 q4 r4
          rcases Nat.lt_or_ge ra 4294967296 with hb4 | hb4
          · have t3 : decide (4294967296 ≤ ra) = false := by simp; omega
            have t3' : decide ((4294967296 : Int) ≤ (ra : Int)) = false := by simp; omega
            go_wp2
            go_round
            case rel => exact ⟨qm, ra, rfl, rfl, D3.out hb4⟩
            case measure => have := md.out; simp [intOf]; omega
          · have t3 : decide (4294967296 ≤ ra) = true := by simp; omega
            have t3' : decide ((4294967296 : Int) ≤ (ra : Int)) = true := by simp; omega
            obtain rfl : qm = Q2 := (D4.out hb4).trans HQ2.out.symm
            clear D3 D4
            go_wp2
            go_ret2
            exact ⟨rfl, rfl⟩
        · have dn := hide (hrel.out.done (by omega) (by rw [← HX.out, ← HR'.out, ← HT.out]; omega))
          have t1 : decide (4294967296 ≤ q) = false := by simp; omega
          have t1' : decide ((4294967296 : Int) ≤ (q : Int)) = false := by simp; omega
          have t2 : decide (tt < x) = false := by simp; omega
          obtain rfl : q = Q2 := dn.out.trans HQ2.out.symm
          clear q4 r4
          go_wp2
          go_ret2
          exact ⟨rfl, rfl⟩
end Go.Proofs.YtaaadejamjbcbaaGreatDoor
