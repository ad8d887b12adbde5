/- Square metres of the first numbers: not above the exact ones, and less than two below; plain facts. -/
import Derived.Test.YtaaadejamjbcbaaDoorMeMet
namespace Go.Proofs.YtaaadejamjbcbaaDoor
open Go.RowKit

theorem q_low {T S p q : Int} (hS : 0 < S) (hT : T = S / 2000000) (hp : 0 ≤ p) (hpS : p ≤ S) (hq : q = T * p / S) : q ≤ p / 2000000 ∧ p / 2000000 - 1 ≤ q := by
  have t1 : T * 2000000 ≤ S := by rw [hT]; exact Int.ediv_mul_le _ (by decide)
  have t2 : S < (T + 1) * 2000000 := by
    have := Int.lt_ediv_add_one_mul_self S (show (0 : Int) < 2000000 by decide)
    rw [hT]; exact this
  have t0 : 0 ≤ T := by rw [hT]; exact Int.ediv_nonneg (by omega) (by decide)
  constructor
  · have h1 : q * S ≤ T * p := by rw [hq]; exact Int.ediv_mul_le _ (by omega)
    have h2 : q * S * 2000000 ≤ T * p * 2000000 := Int.mul_le_mul_of_nonneg_right h1 (by decide)
    have h3 : T * 2000000 * p ≤ S * p := Int.mul_le_mul_of_nonneg_right t1 hp
    have h4 : (q * 2000000) * S ≤ p * S := by
      have e1 : q * 2000000 * S = q * S * 2000000 := by rw [Int.mul_assoc, Int.mul_comm 2000000 S, ← Int.mul_assoc]
      have e2 : T * p * 2000000 = T * 2000000 * p := by rw [Int.mul_assoc, Int.mul_comm p 2000000, ← Int.mul_assoc]
      rw [e1, Int.mul_comm p S]; omega
    have h5 : q * 2000000 ≤ p := Int.le_of_mul_le_mul_right h4 hS
    exact (Int.le_ediv_iff_mul_le (by decide)).2 h5
  · obtain ⟨m, hm⟩ : ∃ m, m = p / 2000000 := ⟨_, rfl⟩
    have m1 : m * 2000000 ≤ p := by rw [hm]; exact Int.ediv_mul_le _ (by decide)
    have m0 : 0 ≤ m := by rw [hm]; exact Int.ediv_nonneg hp (by decide)
    have mT : m ≤ T := by rw [hm, hT]; exact Int.ediv_le_ediv (by decide) hpS
    rw [← hm, hq]
    rw [Int.le_ediv_iff_mul_le hS]
    have h1 : T * (m * 2000000) ≤ T * p := Int.mul_le_mul_of_nonneg_left m1 t0
    by_cases hm0 : m = 0
    · subst hm0
      have : 0 ≤ T * p := Int.mul_nonneg t0 hp
      omega
    · have h2 : (m - 1) * S ≤ (m - 1) * ((T + 1) * 2000000) := Int.mul_le_mul_of_nonneg_left (by omega) (by omega)
      have h3 : (m - 1) * (T + 1) ≤ T * m := by
        have : (m - 1) * (T + 1) = T * m + m - T - 1 := by rw [Int.sub_mul, Int.mul_add, Int.mul_comm m T]; omega
        omega
      have h4 : (m - 1) * (T + 1) * 2000000 ≤ T * m * 2000000 := Int.mul_le_mul_of_nonneg_right h3 (by decide)
      rw [Int.mul_assoc] at h4
      rw [show T * m * 2000000 = T * (m * 2000000) from Int.mul_assoc _ _ _] at h4
      omega
theorem me_ok {l : List Int} (h : meE l = 0) : l.length ≤ 1000 ∧ wOk l ∧ 0 ≤ l.sum ∧ l.sum ≤ 1152921504606846976 ∧ meL l = (List.range l.length).map fun i => qK (l.sum / 2000000) l.sum l (i + 1) - qK (l.sum / 2000000) l.sum l i := by
  have hL : meL l = shK (l.sum / 2000000) l.sum l l.length := by unfold meL; rw [if_pos h]
  unfold meE at h
  split at h
  · omega
  · split at h
    · omega
    · split at h
      · omega
      · rename_i a1 a2 a3
        have hw : wOk l := wB_iff.1 (by simpa using a2)
        exact ⟨by omega, hw, sum_nonneg hw, by omega, by rw [hL, shK_map]⟩
theorem parts_facts {l : List Int} (h : meE l = 0) (k : Nat) (hk : k < l.length) :
    (0 ≤ qK (l.sum / 2000000) l.sum l (k + 1) - qK (l.sum / 2000000) l.sum l k ∧ (l[k] = 0 → qK (l.sum / 2000000) l.sum l (k + 1) - qK (l.sum / 2000000) l.sum l k = 0)) ∧
    (qK (l.sum / 2000000) l.sum l (k + 1) ≤ preS l (k + 1) / 2000000 ∧ preS l (k + 1) / 2000000 - 1 ≤ qK (l.sum / 2000000) l.sum l (k + 1)) ∧
    (0 ≤ qK (l.sum / 2000000) l.sum l k ∧ qK (l.sum / 2000000) l.sum l (k + 1) ≤ 1152921504606846976) ∧ 0 ≤ preS l k ∧ preS l k + l[k] ≤ 1152921504606846976 ∧ 0 ≤ l[k] := by
  obtain ⟨_, hw, h0, h1, _⟩ := me_ok h
  have p0 := (preS_bd hw k (by omega)).1
  have p1 := preS_mono hw (show k + 1 ≤ l.length by omega) (Nat.le_refl _)
  rw [preS_all] at p1
  have ps := preS_succ l k hk
  have pn := (preS_bd hw (k + 1) (by omega)).1
  have x0 := (hw k hk).1
  have tb : 0 ≤ l.sum / 2000000 ∧ l.sum / 2000000 ≤ 1152921504606846976 := ⟨Int.ediv_nonneg h0 (by decide), by omega⟩
  by_cases hS : l.sum = 0
  · have e : ∀ j, qK (l.sum / 2000000) l.sum l j = 0 := fun j => by unfold qK; rw [hS]; simp
    have z1 : preS l (k + 1) = 0 := by omega
    rw [e, e, z1]
    refine ⟨⟨by omega, fun _ => by omega⟩, ⟨by decide, by decide⟩, ⟨by omega, by omega⟩, p0, by omega, x0⟩
  · have hS0 : 0 < l.sum := by omega
    have b := me_bd tb.1 tb.2 hS0 hw (Int.le_refl _) k hk
    have q1 := q_low (T := l.sum / 2000000) (q := qK (l.sum / 2000000) l.sum l (k + 1)) hS0 rfl pn p1 rfl
    have qb := qK_bd tb.1 hS0 hw (Int.le_refl _) k (by omega)
    have qb1 := qK_bd tb.1 hS0 hw (Int.le_refl _) (k + 1) (by omega)
    refine ⟨⟨b.1, fun hx => ?_⟩, q1, ⟨qb.1, by omega⟩, p0, by omega, x0⟩
    have : preS l (k + 1) = preS l k := by omega
    unfold qK
    rw [this]
    omega
theorem parts_all {l : List Int} (h : meE l = 0) : qK (l.sum / 2000000) l.sum l l.length = l.sum / 2000000 := by
  obtain ⟨_, hw, h0, h1, _⟩ := me_ok h
  by_cases hS : l.sum = 0
  · unfold qK; rw [hS]; simp
  · exact qK_all (by omega)
/-- the law's test of the numbers that are refused -/
def tooP (n : Int) : Bool := decide (n < 0 ∨ 1125899906842624 < n)
theorem parts_err {l : List Int} (h : meE l ≠ 0) (hl : l.length ≤ 50) : l.any tooP = true := by
  rcases Bool.eq_false_or_eq_true (l.any tooP) with h1 | h1
  · exact h1
  · exfalso
    have hx : ∀ x ∈ l, 0 ≤ x ∧ x ≤ 1125899906842624 := fun x hx => by
      have : tooP x = false := by
        rcases Bool.eq_false_or_eq_true (tooP x) with h2 | h2
        · have := List.any_eq_true.2 ⟨x, hx, h2⟩
          rw [h1] at this; cases this
        · exact h2
      simp [tooP] at this
      omega
    have hw : wOk l := fun i hi => by have := hx _ (List.getElem_mem hi); omega
    have key : ∀ (m : List Int), (∀ x ∈ m, x ≤ 1125899906842624) → m.sum ≤ m.length * 1125899906842624 := by
      intro m
      induction m with
      | nil => intro _; simp
      | cons x m ih =>
        intro hm
        have a := ih (fun y hy => hm y (List.mem_cons_of_mem _ hy))
        have b := hm x (List.mem_cons_self ..)
        simp only [List.sum_cons, List.length_cons]
        omega
    have hs := key l (fun x hx' => (hx x hx').2)
    apply h
    unfold meE
    rw [if_neg (by omega), if_neg (by rw [wB_iff.2 hw]; simp), if_neg (by omega)]
end Go.Proofs.YtaaadejamjbcbaaDoor
