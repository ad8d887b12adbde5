/- The reference's greatest sum (layer 19): what it returns; memory is left as it is (printed by gen_rc.py). -/
import Derived.Test.YtjnifgheipmanaaRcFn
namespace Go.Proofs.Ytjnifgheipmanaa
open Go.RowKit

set_option maxRecDepth 100000 in
set_option maxHeartbeats 8000000 in
theorem rgreatest_any (l : List Int) (A : Option Addr) (c k : Nat) (w : World) (hl : IntSl w A l) (le : l.length ≤ 10000) (ok : ∀ i, i < l.length → -1 ≤ l.getD i 0 ∧ l.getD i 0 ≤ 4194304) (h1 : 1 ≤ k) (h2 : k ≤ l.length) :
    Calls Try.prog 53 #[.slice A l.length c, .int .i64 (k : Int)] w fun e w' => e = .returned (.int .i64 (rm l k l.length)) ∧ w = w' := by
  obtain ⟨b, off, rfl, hbl, hat⟩ := hl.atg (by omega)
  have HV := hide ok
  have PB := hide (fun i hi => ps_le (fun i hi => (ok i hi).2) i hi)
  have HAT := hide hat
  clear hl ok hat
  go_enter Try.func53, Try.ntmps53
  go_wp2
  go_loop [5, 6, 7] (fun v5 v6 v7 => ∃ i : Nat, i ≤ l.length ∧ v7 = .int .i64 (i : Int) ∧ v6 = .int .i64 (sk l k i) ∧ v5 = .int .i64 (rm l k i)) (fun _ _ v7 => l.length - (intOf v7).toNat)
  case atStart => exact ⟨0, by omega, rfl, by simp [sk, ps], rfl⟩
  case round =>
    obtain ⟨i, hi, rfl, rfl, rfl⟩ := hrel
    by_cases hlt : i < l.length
    · have c0 := HAT.out i hlt
      have st := sk_step l k i
      have v0 := (HV.out i hlt).2
      have p0 := PB.out i (by omega)
      have p1 := PB.out (i + 1) (by omega)
      have sb := sk_bd l k i
      have sb1 := sk_bd l k (i + 1)
      have RM : Hid (rm l k (i + 1) = if rm l k i < sk l k (i + 1) then sk l k (i + 1) else rm l k i) := hide rfl
      have n0 : (0 : Int) ≤ (i : Int) := by omega
      have n1 : (i : Int) < (l.length : Int) := by omega
      have LT := hide hlt
      clear hlt
      by_cases hk : k ≤ i
      · rw [if_pos hk] at st
        have c1 := HAT.out (i - k) (by have := LT.out; omega)
        have s3 : IntKind.i64.wrap ((i : Int) - (k : Int)) = ((i - k : Nat) : Int) := (IntWalk.i64_in _ (by omega)).trans (by omega)
        have q1 : (k : Int) ≤ (i : Int) := by omega
        have q3 : ((i - k : Nat) : Int) < (l.length : Int) := by omega
        have q4 : (0 : Int) ≤ ((i - k : Nat) : Int) := by omega
        generalize l.getD i 0 = d0 at *
        generalize l.getD (i - k) 0 = d1 at *
        generalize i - k = j at *
        clear hk
        rcases Int.lt_or_le 0 d0 with x0 | x0 <;> rcases Int.lt_or_le 0 d1 with x1 | x1
        · rw [Int.max_eq_left (Int.le_of_lt x0), Int.max_eq_left (Int.le_of_lt x1)] at st
          have GT : Hid (∀ T, sk l k (i + 1) = T → rm l k i < T → rm l k (i + 1) = T) := hide (fun T e h => by rw [RM.out, if_pos (by rw [e]; exact h), e])
          have LE : Hid (∀ T, sk l k (i + 1) = T → ¬ rm l k i < T → rm l k (i + 1) = rm l k i) := hide (fun T e h => by rw [RM.out, if_neg (by rw [e]; exact h)])
          have HT : Hid (sk l k (i + 1) = sk l k i + d0 - d1) := hide (by omega)
          have s1 := IntWalk.i64_in (sk l k i + d0) (by omega)
          have s2 := IntWalk.i64_in (sk l k i + d0 - d1) (by omega)
          clear st v0 p0 p1 sb sb1 RM
          generalize sk l k i = S at *
          generalize hM : rm l k i = M at *
          have HM := hide hM
          clear hM
          rcases Int.lt_or_le M (S + d0 - d1) with m | m
          · have m' : M < S + d0 - d1 := by omega
            have E1 := hide (GT.out _ HT.out m')
            clear GT LE m
            go_wp2
            go_round
            case rel => exact ⟨i + 1, by have := LT.out; omega, by go_num, by rw [HT.out], by rw [E1.out]⟩
            case measure => have := LT.out; simp [intOf]; omega
          · have m' : ¬ M < S + d0 - d1 := by omega
            have E1 := hide (LE.out _ HT.out m')
            clear GT LE m
            go_wp2
            go_round
            case rel => exact ⟨i + 1, by have := LT.out; omega, by go_num, by rw [HT.out], by rw [E1.out]⟩
            case measure => have := LT.out; simp [intOf]; omega
        · rw [Int.max_eq_left (Int.le_of_lt x0), Int.max_eq_right x1] at st
          have GT : Hid (∀ T, sk l k (i + 1) = T → rm l k i < T → rm l k (i + 1) = T) := hide (fun T e h => by rw [RM.out, if_pos (by rw [e]; exact h), e])
          have LE : Hid (∀ T, sk l k (i + 1) = T → ¬ rm l k i < T → rm l k (i + 1) = rm l k i) := hide (fun T e h => by rw [RM.out, if_neg (by rw [e]; exact h)])
          have HT : Hid (sk l k (i + 1) = sk l k i + d0) := hide (by omega)
          have s1 := IntWalk.i64_in (sk l k i + d0) (by omega)
          clear st v0 p0 p1 sb sb1 RM
          generalize sk l k i = S at *
          generalize hM : rm l k i = M at *
          have HM := hide hM
          clear hM
          rcases Int.lt_or_le M (S + d0) with m | m
          · have m' : M < S + d0 := by omega
            have E1 := hide (GT.out _ HT.out m')
            clear GT LE m
            go_wp2
            go_round
            case rel => exact ⟨i + 1, by have := LT.out; omega, by go_num, by rw [HT.out], by rw [E1.out]⟩
            case measure => have := LT.out; simp [intOf]; omega
          · have m' : ¬ M < S + d0 := by omega
            have E1 := hide (LE.out _ HT.out m')
            clear GT LE m
            go_wp2
            go_round
            case rel => exact ⟨i + 1, by have := LT.out; omega, by go_num, by rw [HT.out], by rw [E1.out]⟩
            case measure => have := LT.out; simp [intOf]; omega
        · rw [Int.max_eq_right x0, Int.max_eq_left (Int.le_of_lt x1)] at st
          have GT : Hid (∀ T, sk l k (i + 1) = T → rm l k i < T → rm l k (i + 1) = T) := hide (fun T e h => by rw [RM.out, if_pos (by rw [e]; exact h), e])
          have LE : Hid (∀ T, sk l k (i + 1) = T → ¬ rm l k i < T → rm l k (i + 1) = rm l k i) := hide (fun T e h => by rw [RM.out, if_neg (by rw [e]; exact h)])
          have HT : Hid (sk l k (i + 1) = sk l k i - d1) := hide (by omega)
          have s2 := IntWalk.i64_in (sk l k i - d1) (by omega)
          clear st v0 p0 p1 sb sb1 RM
          generalize sk l k i = S at *
          generalize hM : rm l k i = M at *
          have HM := hide hM
          clear hM
          rcases Int.lt_or_le M (S - d1) with m | m
          · have m' : M < S - d1 := by omega
            have E1 := hide (GT.out _ HT.out m')
            clear GT LE m
            go_wp2
            go_round
            case rel => exact ⟨i + 1, by have := LT.out; omega, by go_num, by rw [HT.out], by rw [E1.out]⟩
            case measure => have := LT.out; simp [intOf]; omega
          · have m' : ¬ M < S - d1 := by omega
            have E1 := hide (LE.out _ HT.out m')
            clear GT LE m
            go_wp2
            go_round
            case rel => exact ⟨i + 1, by have := LT.out; omega, by go_num, by rw [HT.out], by rw [E1.out]⟩
            case measure => have := LT.out; simp [intOf]; omega
        · rw [Int.max_eq_right x0, Int.max_eq_right x1] at st
          have GT : Hid (∀ T, sk l k (i + 1) = T → rm l k i < T → rm l k (i + 1) = T) := hide (fun T e h => by rw [RM.out, if_pos (by rw [e]; exact h), e])
          have LE : Hid (∀ T, sk l k (i + 1) = T → ¬ rm l k i < T → rm l k (i + 1) = rm l k i) := hide (fun T e h => by rw [RM.out, if_neg (by rw [e]; exact h)])
          have HT : Hid (sk l k (i + 1) = sk l k i) := hide (by omega)
          clear st v0 p0 p1 sb sb1 RM
          generalize sk l k i = S at *
          generalize hM : rm l k i = M at *
          have HM := hide hM
          clear hM
          rcases Int.lt_or_le M (S) with m | m
          · have m' : M < S := by omega
            have E1 := hide (GT.out _ HT.out m')
            clear GT LE m
            go_wp2
            go_round
            case rel => exact ⟨i + 1, by have := LT.out; omega, by go_num, by rw [HT.out], by rw [E1.out]⟩
            case measure => have := LT.out; simp [intOf]; omega
          · have m' : ¬ M < S := by omega
            have E1 := hide (LE.out _ HT.out m')
            clear GT LE m
            go_wp2
            go_round
            case rel => exact ⟨i + 1, by have := LT.out; omega, by go_num, by rw [HT.out], by rw [E1.out]⟩
            case measure => have := LT.out; simp [intOf]; omega
      · rw [if_neg hk] at st
        have q1 : ¬ (k : Int) ≤ (i : Int) := by omega
        generalize l.getD i 0 = d0 at *
        clear hk
        rcases Int.lt_or_le 0 d0 with x0 | x0
        · rw [Int.max_eq_left (Int.le_of_lt x0)] at st
          have GT : Hid (∀ T, sk l k (i + 1) = T → rm l k i < T → rm l k (i + 1) = T) := hide (fun T e h => by rw [RM.out, if_pos (by rw [e]; exact h), e])
          have LE : Hid (∀ T, sk l k (i + 1) = T → ¬ rm l k i < T → rm l k (i + 1) = rm l k i) := hide (fun T e h => by rw [RM.out, if_neg (by rw [e]; exact h)])
          have HT : Hid (sk l k (i + 1) = sk l k i + d0) := hide (by omega)
          have s1 := IntWalk.i64_in (sk l k i + d0) (by omega)
          clear st v0 p0 p1 sb sb1 RM
          generalize sk l k i = S at *
          generalize hM : rm l k i = M at *
          have HM := hide hM
          clear hM
          rcases Int.lt_or_le M (S + d0) with m | m
          · have m' : M < S + d0 := by omega
            have E1 := hide (GT.out _ HT.out m')
            clear GT LE m
            go_wp2
            go_round
            case rel => exact ⟨i + 1, by have := LT.out; omega, by go_num, by rw [HT.out], by rw [E1.out]⟩
            case measure => have := LT.out; simp [intOf]; omega
          · have m' : ¬ M < S + d0 := by omega
            have E1 := hide (LE.out _ HT.out m')
            clear GT LE m
            go_wp2
            go_round
            case rel => exact ⟨i + 1, by have := LT.out; omega, by go_num, by rw [HT.out], by rw [E1.out]⟩
            case measure => have := LT.out; simp [intOf]; omega
        · rw [Int.max_eq_right x0] at st
          have GT : Hid (∀ T, sk l k (i + 1) = T → rm l k i < T → rm l k (i + 1) = T) := hide (fun T e h => by rw [RM.out, if_pos (by rw [e]; exact h), e])
          have LE : Hid (∀ T, sk l k (i + 1) = T → ¬ rm l k i < T → rm l k (i + 1) = rm l k i) := hide (fun T e h => by rw [RM.out, if_neg (by rw [e]; exact h)])
          have HT : Hid (sk l k (i + 1) = sk l k i) := hide (by omega)
          clear st v0 p0 p1 sb sb1 RM
          generalize sk l k i = S at *
          generalize hM : rm l k i = M at *
          have HM := hide hM
          clear hM
          rcases Int.lt_or_le M (S) with m | m
          · have m' : M < S := by omega
            have E1 := hide (GT.out _ HT.out m')
            clear GT LE m
            go_wp2
            go_round
            case rel => exact ⟨i + 1, by have := LT.out; omega, by go_num, by rw [HT.out], by rw [E1.out]⟩
            case measure => have := LT.out; simp [intOf]; omega
          · have m' : ¬ M < S := by omega
            have E1 := hide (LE.out _ HT.out m')
            clear GT LE m
            go_wp2
            go_round
            case rel => exact ⟨i + 1, by have := LT.out; omega, by go_num, by rw [HT.out], by rw [E1.out]⟩
            case measure => have := LT.out; simp [intOf]; omega
    · have e : i = l.length := by omega
      subst e
      go_wp2
      go_ret
      exact ⟨rfl, rfl⟩
end Go.Proofs.Ytjnifgheipmanaa
