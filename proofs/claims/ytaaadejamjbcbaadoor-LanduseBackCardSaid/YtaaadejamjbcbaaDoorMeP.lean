/- Square metres: parts rounded down of the first sums of twice the areas, and their differences, said of integers (printed by gen_me.py out of XRtShareP). -/
import Derived.Test.YtaaadejamjbcbaaDoorRtPlain
namespace Go.Proofs.YtaaadejamjbcbaaDoor

theorem take_snocR (l : List Int) (k : Nat) (h : k < l.length) : l.take (k + 1) = l.take k ++ [l[k]] := by rw [List.take_succ_eq_append_getElem h]
/-- the sum of the first k weights -/
def preS (l : List Int) (k : Nat) : Int := (l.take k).sum
theorem preS_zero (l : List Int) : preS l 0 = 0 := by simp [preS]
theorem preS_succ (l : List Int) (k : Nat) (h : k < l.length) : preS l (k + 1) = preS l k + l[k] := by
  unfold preS
  rw [take_snocR l k h, List.sum_append]
  simp
theorem preS_all (l : List Int) : preS l l.length = l.sum := by simp [preS]
/-- all weights fit -/
def wOk (l : List Int) : Prop := ∀ i (h : i < l.length), 0 ≤ l[i] ∧ l[i] ≤ 1152921504606846976
def wB (l : List Int) : Bool := l.all fun x => decide (0 ≤ x ∧ x ≤ 1152921504606846976)
theorem wB_iff {l : List Int} : wB l = true ↔ wOk l := by
  simp only [wB, List.all_eq_true, decide_eq_true_eq, wOk]
  constructor
  · exact fun h i hi => h _ (List.getElem_mem hi)
  · intro h x hx
    obtain ⟨i, hi, rfl⟩ := List.mem_iff_getElem.1 hx
    exact h i hi
theorem preS_bd {l : List Int} (h : wOk l) : ∀ k, k ≤ l.length → 0 ≤ preS l k ∧ preS l k ≤ k * 1152921504606846976
  | 0, _ => by simp [preS_zero]
  | k + 1, hk => by
    have i := preS_bd h k (by omega)
    have j := h k (by omega)
    rw [preS_succ l k (by omega)]
    omega
theorem preS_mono {l : List Int} (h : wOk l) {j : Nat} : ∀ {k}, j ≤ k → k ≤ l.length → preS l j ≤ preS l k
  | 0, hj, _ => by obtain rfl : j = 0 := by omega
                   exact Int.le_refl _
  | k + 1, hj, hk => by
    rcases Nat.lt_or_ge j (k + 1) with h1 | h1
    · have i := preS_mono h (j := j) (k := k) (by omega) (by omega)
      have := h k (by omega)
      rw [preS_succ l k (by omega)]
      omega
    · obtain rfl : j = k + 1 := by omega
      exact Int.le_refl _
/-- the first k shares of t by l, of the sum S -/
def qK (t S : Int) (l : List Int) (k : Nat) : Int := t * preS l k / S
def shK (t S : Int) (l : List Int) : Nat → List Int
  | 0 => []
  | k + 1 => shK t S l k ++ [qK t S l (k + 1) - qK t S l k]
theorem shK_length (t S : Int) (l : List Int) : ∀ k, (shK t S l k).length = k
  | 0 => rfl
  | k + 1 => by simp [shK, shK_length t S l k]
theorem shK_at (t S : Int) (l : List Int) : ∀ (k i : Nat) (_ : i < k), (shK t S l k)[i]? = some (qK t S l (i + 1) - qK t S l i)
  | k + 1, i, h => by
    simp only [shK]
    rcases Nat.lt_or_ge i k with h1 | h1
    · rw [List.getElem?_append_left (by rw [shK_length]; exact h1)]
      exact shK_at t S l k i h1
    · obtain rfl : i = k := by omega
      rw [List.getElem?_append_right (by rw [shK_length]; omega)]
      simp [shK_length]
theorem qK_bd {t S : Int} {l : List Int} (ht : 0 ≤ t) (hS : 0 < S) (hw : wOk l) (hs : l.sum ≤ S) (k : Nat) (hk : k ≤ l.length) : 0 ≤ qK t S l k ∧ qK t S l k ≤ t := by
  have b := preS_bd hw k hk
  have m : preS l k ≤ S := by
    have := preS_mono hw hk (Nat.le_refl _)
    rw [preS_all] at this
    omega
  unfold qK
  refine ⟨Int.ediv_nonneg (Int.mul_nonneg ht b.1) (by omega), ?_⟩
  refine Int.ediv_le_of_le_mul hS ?_
  exact Int.mul_le_mul_of_nonneg_left m ht
theorem qK_mono {t S : Int} {l : List Int} (ht : 0 ≤ t) (hS : 0 < S) (hw : wOk l) {j k : Nat} (hjk : j ≤ k) (hk : k ≤ l.length) : qK t S l j ≤ qK t S l k :=
  Int.ediv_le_ediv hS (Int.mul_le_mul_of_nonneg_left (preS_mono hw hjk hk) ht)
theorem qK_zero (t S : Int) (l : List Int) : qK t S l 0 = 0 := by simp [qK, preS_zero]
theorem qK_all {t : Int} {l : List Int} (hS : 0 < l.sum) : qK t l.sum l l.length = t := by
  unfold qK
  rw [preS_all]
  exact Int.mul_ediv_cancel t (by omega)
/-- the sum that the program keeps: it stops at 2^60 -/
def capS (l : List Int) (k : Nat) : Int := if 1152921504606846976 < preS l k then 1152921504606846976 else preS l k
def bigS (l : List Int) (k : Nat) : Bool := decide (1152921504606846976 < preS l k)
theorem cap_step {l : List Int} (h : wOk l) (k : Nat) (hk : k < l.length) : 0 ≤ capS l k ∧ capS l k ≤ 1152921504606846976 ∧
    (1152921504606846976 < capS l k + l[k] → capS l (k + 1) = 1152921504606846976 ∧ bigS l (k + 1) = true) ∧ (capS l k + l[k] ≤ 1152921504606846976 → capS l (k + 1) = capS l k + l[k] ∧ bigS l (k + 1) = bigS l k) := by
  have b := (preS_bd h k (by omega)).1
  have x := h k hk
  have e := preS_succ l k hk
  unfold capS bigS
  rw [e]
  generalize preS l k = p at *
  generalize l[k] = y at *
  by_cases hp : 1152921504606846976 < p
  · rw [if_pos hp]
    refine ⟨by omega, by omega, fun _ => ?_, fun h' => ?_⟩
    · rw [if_pos (by omega)]; exact ⟨rfl, decide_eq_true (by omega)⟩
    · rw [if_pos (by omega)]; exact ⟨by omega, by rw [decide_eq_true (by omega), decide_eq_true hp]⟩
  · rw [if_neg hp]
    refine ⟨by omega, by omega, fun h' => ?_, fun h' => ?_⟩
    · rw [if_pos (by omega)]; exact ⟨rfl, decide_eq_true (by omega)⟩
    · rw [if_neg (by omega)]; exact ⟨rfl, by rw [decide_eq_false (by omega), decide_eq_false hp]⟩
theorem cap_stepK {l : List Int} {k : Nat} (h : ∀ i (h : i < l.length), i < k + 1 → 0 ≤ l[i] ∧ l[i] ≤ 1152921504606846976) (hk : k < l.length) : 0 ≤ capS l k ∧ capS l k ≤ 1152921504606846976 ∧
    (1152921504606846976 < capS l k + l[k] → capS l (k + 1) = 1152921504606846976 ∧ bigS l (k + 1) = true) ∧ (capS l k + l[k] ≤ 1152921504606846976 → capS l (k + 1) = capS l k + l[k] ∧ bigS l (k + 1) = bigS l k) := by
  have hw : wOk (l.take (k + 1)) := fun i hi => by
    rw [List.length_take] at hi
    rw [List.getElem_take]
    exact h i (by omega) (by omega)
  have hlen : (l.take (k + 1)).length = k + 1 := by rw [List.length_take]; omega
  have p0 : preS (l.take (k + 1)) k = preS l k := by unfold preS; rw [List.take_take, Nat.min_eq_left (by omega)]
  have p1 : preS (l.take (k + 1)) (k + 1) = preS l (k + 1) := by unfold preS; rw [List.take_take, Nat.min_self]
  have r := cap_step hw k (by omega)
  unfold capS bigS at *
  rw [p0, p1, List.getElem_take] at r
  exact r
theorem cap_all {l : List Int} : capS l l.length = (if 1152921504606846976 < l.sum then 1152921504606846976 else l.sum) ∧ bigS l l.length = decide (1152921504606846976 < l.sum) := by
  unfold capS bigS
  rw [preS_all]
  exact ⟨rfl, rfl⟩
theorem cap_zero (l : List Int) : capS l 0 = 0 ∧ bigS l 0 = false := by simp [capS, bigS, preS_zero]
/-- the step of the second loop, in natural numbers -/
theorem share_step {T SS : Nat} {l : List Int} (hT : T ≤ 1152921504606846976) (hS : l.sum = (SS : Int)) (h0 : 0 < SS) (hS' : SS ≤ 1152921504606846976) (hw : wOk l) (k : Nat) (hk : k < l.length) :
    ∃ F Q : Nat, preS l (k + 1) = (F : Int) ∧ F ≤ SS ∧ T * F / 18446744073709551616 < SS ∧ T * F % 18446744073709551616 < 18446744073709551616 ∧ (T * F / 18446744073709551616 * 18446744073709551616 + T * F % 18446744073709551616) / SS = Q ∧
      qK (T : Int) (SS : Int) l (k + 1) = (Q : Int) ∧ Q ≤ 1152921504606846976 ∧ 0 ≤ qK (T : Int) (SS : Int) l k ∧ qK (T : Int) (SS : Int) l k ≤ 1152921504606846976 ∧ 0 ≤ preS l k ∧ preS l k ≤ 1152921504606846976 := by
  have b1 := preS_bd hw (k + 1) (by omega)
  have b0 := preS_bd hw k (by omega)
  have m1 := preS_mono hw (show k + 1 ≤ l.length by omega) (Nat.le_refl _)
  have m0 := preS_mono hw (show k ≤ l.length by omega) (Nat.le_refl _)
  rw [preS_all, hS] at m1 m0
  have q0 := qK_bd (t := (T : Int)) (S := (SS : Int)) (by omega) (by omega) hw (by omega) k (by omega)
  obtain ⟨F, hF⟩ : ∃ F : Nat, preS l (k + 1) = (F : Int) := ⟨(preS l (k + 1)).toNat, by omega⟩
  have hFS : F ≤ SS := by omega
  have hm : T * F ≤ 1152921504606846976 * SS := Nat.mul_le_mul hT hFS
  have ej : T * F / 18446744073709551616 * 18446744073709551616 + T * F % 18446744073709551616 = T * F := by omega
  have hq : T * F / SS ≤ T := Nat.div_le_of_le_mul (by rw [Nat.mul_comm SS T]; exact Nat.mul_le_mul_left T hFS)
  refine ⟨F, T * F / SS, hF, hFS, by omega, Nat.mod_lt _ (by decide), by rw [ej], ?_, by omega, by omega, by omega, by omega, by omega⟩
  unfold qK
  rw [hF, ← Int.natCast_mul, ← Int.natCast_ediv]
/-- one bit of the long division: B is the bit, T what is above it -/
theorem bit_and (t i : Nat) : t &&& 2 ^ i = if t / 2 ^ i % 2 = 1 then 2 ^ i else 0 := by
  have e : t.testBit i = decide (t / 2 ^ i % 2 = 1) := Nat.testBit_eq_decide_div_mod_eq
  refine Nat.eq_of_testBit_eq fun j => ?_
  rw [Nat.testBit_and, Nat.testBit_two_pow]
  by_cases h : t / 2 ^ i % 2 = 1
  · rw [if_pos h, Nat.testBit_two_pow]
    by_cases hj : i = j
    · subst hj; simp [e, h]
    · simp [hj]
  · rw [if_neg h, Nat.zero_testBit]
    by_cases hj : i = j
    · subst hj; simp [e, h]
    · simp [hj]
/-- before the round at which the bit is half of P: what is above P's half is divided -/
def PartRel (t : Nat) (p s q r : Int) (P : Nat) : Prop := ∃ j : Nat, P = 2 ^ j ∧ j ≤ 62 ∧ ((t / P : Nat) : Int) * p = q * s + r ∧ 0 ≤ r ∧ r < s ∧ 0 ≤ q
theorem part_start {t : Nat} {p s : Int} (ht : t < 4611686018427387904) (hs : 0 < s) : PartRel t p s 0 0 4611686018427387904 :=
  ⟨62, by decide, by omega, by rw [Nat.div_eq_of_lt ht]; simp, by omega, by omega, by omega⟩
theorem part_end {t : Nat} {p s q r : Int} (hs : 0 < s) (h : PartRel t p s q r 1) : (t : Int) * p / s = q := by
  obtain ⟨j, _, _, e, h0, h1, _⟩ := h
  rw [Nat.div_one] at e
  rw [e, Int.add_comm, Int.add_mul_ediv_right _ _ (by omega), Int.ediv_eq_zero_of_lt h0 h1]
  omega
theorem part_q {t : Nat} {p s q r : Int} {P : Nat} (hp : 0 ≤ p) (hps : p ≤ s) (h : PartRel t p s q r P) : 0 ≤ q ∧ q ≤ t ∧ 0 ≤ r ∧ r < s := by
  obtain ⟨j, eP, _, e, h0, h1, hq⟩ := h
  refine ⟨hq, ?_, h0, h1⟩
  have b1 : ((t / P : Nat) : Int) ≤ t := by have := Nat.div_le_self t P; omega
  have b2 : ((t / P : Nat) : Int) * p ≤ t * p := Int.mul_le_mul_of_nonneg_right b1 hp
  have b3 : (t : Int) * p ≤ t * s := Int.mul_le_mul_of_nonneg_left hps (by omega)
  have b4 : q * s ≤ t * s := by omega
  exact Int.le_of_mul_le_mul_right b4 (by omega)
/-- one round -/
theorem part_round {t : Nat} {p s q r : Int} {P : Nat} (h : PartRel t p s q r P) (hP : 1 < P) : ∃ Q : Nat, P = 2 * Q ∧ 0 < Q ∧ Q ≤ 2305843009213693952 ∧
    (t &&& Q = Q ∨ t &&& Q = 0) ∧ (t &&& Q = Q → ∀ q' r' : Int, q' * s + r' = (2 * q) * s + (2 * r + p) → 0 ≤ r' → r' < s → 0 ≤ q' → PartRel t p s q' r' Q) ∧
    (t &&& Q = 0 → ∀ q' r' : Int, q' * s + r' = (2 * q) * s + 2 * r → 0 ≤ r' → r' < s → 0 ≤ q' → PartRel t p s q' r' Q) := by
  obtain ⟨j, e1, e2, e3, e4, e5, e6⟩ := h
  rcases j with _ | j
  · simp at e1; omega
  have hpow : 2 ^ (j + 1) = 2 * 2 ^ j := by rw [Nat.pow_succ, Nat.mul_comm]
  have hq := Nat.two_pow_pos j
  have hle : 2 ^ j ≤ 2 ^ 61 := Nat.pow_le_pow_right (by omega) (by omega)
  have ed : t / P = t / 2 ^ j / 2 := by rw [e1, hpow, Nat.mul_comm, Nat.div_div_eq_div_mul]
  have ha := bit_and t j
  refine ⟨2 ^ j, by omega, hq, by have : 2 ^ 61 = 2305843009213693952 := by decide
                                  omega, by split at ha <;> omega, fun hb q' r' he h0 h1 h2 => ⟨j, rfl, by omega, ?_, h0, h1, h2⟩, fun hb q' r' he h0 h1 h2 => ⟨j, rfl, by omega, ?_, h0, h1, h2⟩⟩
  · have hm : t / 2 ^ j % 2 = 1 := by split at ha <;> omega
    generalize t / 2 ^ j = T at *
    have eT : (T : Int) = 2 * ((t / P : Nat) : Int) + 1 := by omega
    rw [he, eT]
    generalize ((t / P : Nat) : Int) = U at *
    grind
  · have hm : t / 2 ^ j % 2 = 0 := by split at ha <;> omega
    generalize t / 2 ^ j = T at *
    have eT : (T : Int) = 2 * ((t / P : Nat) : Int) := by omega
    rw [he, eT]
    generalize ((t / P : Nat) : Int) = U at *
    grind
/-- Metres: the error, and the list -/
def meE (l : List Int) : Int := if 1000 < l.length then 4 else if wB l = false then 2 else if 1152921504606846976 < l.sum then 5 else 0
def meL (l : List Int) : List Int := if meE l = 0 then shK (l.sum / 2000000) l.sum l l.length else []
theorem meE_full {l : List Int} (h : 1000 < l.length) : meE l = 4 := by simp [meE, h]
theorem meE_range {l : List Int} (h : l.length ≤ 1000) {k : Nat} (hk : k < l.length) (hx : ¬ (0 ≤ l[k] ∧ l[k] ≤ 1152921504606846976)) : meE l = 2 := by
  have : wB l = false := by
    rcases Bool.eq_false_or_eq_true (wB l) with h1 | h1
    · exact absurd (wB_iff.1 h1 k hk) hx
    · exact h1
  unfold meE; rw [if_neg (by omega), if_pos this]
theorem meE_rest {l : List Int} (h : l.length ≤ 1000) (hw : wOk l) : meE l = if 1152921504606846976 < l.sum then 5 else 0 := by
  unfold meE; rw [if_neg (by omega), if_neg (by rw [wB_iff.2 hw]; simp)]
theorem sum_nonneg {l : List Int} (hw : wOk l) : 0 ≤ l.sum := by
  have := (preS_bd hw l.length (Nat.le_refl _)).1
  rwa [preS_all] at this
/-- nothing at all: zeros -/
theorem shK_none (t : Int) (l : List Int) : ∀ k, shK t 0 l k = List.replicate k 0
  | 0 => rfl
  | k + 1 => by
    rw [shK, shK_none t l k, List.replicate_succ']
    congr 1
    simp [qK]
end Go.Proofs.YtaaadejamjbcbaaDoor
