/- The reference's Part (sewershedref02): what it returns; it leaves the world as it is (printed by gen_me.py out of XRtRefShare). -/
import Derived.Test.YtaaadejamjbcbaaDoorMeP
import Derived.Test.YtaaadejamjbcbaaDoorOwn2
namespace Go.Proofs.YtaaadejamjbcbaaDoor
open Go.RowKit

theorem i64_and_is {a b c : Nat} (h : a &&& b = c) (ha : a < 9223372036854775808) (hb : b < 9223372036854775808) : bits .and .i64 (a : Int) (b : Int) = (c : Int) := by rw [i64_and_nat a b ha hb, h]
set_option maxRecDepth 100000 in
set_option maxHeartbeats 2000000 in
theorem part_any (T : Nat) (p s : Int) (w : World) (hT : T ≤ 1125899906842624) (h0 : 0 ≤ p) (hps : p ≤ s) (hs : 0 < s) (hs' : s ≤ 1152921504606846976) :
    Calls Tryd.prog 28 #[.int .i64 (T : Int), .int .i64 p, .int .i64 s] w fun e w' => e = .returned (.int .i64 ((T : Int) * p / s)) ∧ w = w' := by
  have hT' : (T : Int) ≤ 1125899906842624 := by omega
  have PS := hide (part_start (t := T) (p := p) (s := s) (by omega) hs)
  go_enter Tryd.func28, Tryd.ntmps28
  go_wp2
  go_loop [7, 8, 9] (fun v7 v8 v9 => ∃ (q r : Int) (P : Nat), v7 = .int .i64 q ∧ v8 = .int .i64 r ∧ v9 = .int .i64 ((P / 2 : Nat) : Int) ∧ Hid (PartRel T p s q r P)) (fun _ _ v9 => (intOf v9).toNat)
  case atStart => exact ⟨0, 0, 4611686018427387904, rfl, rfl, rfl, PS⟩
  case round =>
    obtain ⟨q, r, P, rfl, rfl, rfl, HP⟩ := hrel
    have hb := part_q h0 hps HP.out
    by_cases hP : 1 < P
    · obtain ⟨Q, rfl, hQ, hQ', hor, k1, k2⟩ := part_round HP.out hP
      have e2 : ((2 * Q / 2 : Nat) : Int) = (Q : Int) := by omega
      have e3 : (Q : Int).tdiv 2 = ((Q / 2 : Nat) : Int) := by rw [Int.tdiv_eq_ediv_of_nonneg (by omega)]; omega
      rw [e2]
      obtain ⟨b1, b2, b3, b4⟩ := hb
      have c1 : decide (0 < (Q : Int)) = true := decide_eq_true (by omega)
      have hQ1 : (Q : Int) ≤ 2305843009213693952 := by omega
      have hQ2 : 0 < (Q : Int) := by omega
      rcases hor with hor | hor
      · have ha := i64_and_is hor (by omega) (by omega)
        have c2 : ((Q : Int) != 0) = true := by simp; omega
        have K := hide (k1 hor)
        have b5 : 2 * r + p < 3 * s := by omega
        have b6 : 0 ≤ 2 * r + p := by omega
        clear hor k1 k2 hP HP e2 hQ hQ'
        go_wp2
        generalize hy : 2 * r + p = y at *
        generalize hz : 2 * q = z at *
        go_loop [7, 8] (fun v7 v8 => ∃ q' r' : Int, v7 = .int .i64 q' ∧ v8 = .int .i64 r' ∧ ((q' = z ∧ r' = y) ∨ (q' = z + 1 ∧ r' = y - s ∧ s ≤ y) ∨ (q' = z + 2 ∧ r' = y - 2 * s ∧ 2 * s ≤ y))) (fun _ v8 => (intOf v8).toNat)
        case atStart => exact ⟨z, y, rfl, rfl, .inl ⟨rfl, rfl⟩⟩
        case round =>
          obtain ⟨q', r', rfl, rfl, hr⟩ := hrel
          have hbd : 0 ≤ q' ∧ q' ≤ 2251799813685250 ∧ 0 ≤ r' ∧ r' ≤ 3458764513820540928 := by omega
          obtain ⟨m1, m2, m3, m4⟩ := hbd
          by_cases hge : s ≤ r'
          · have c3 : decide (s ≤ r') = true := decide_eq_true hge
            have HR : Hid ((q' + 1 = z ∧ r' - s = y) ∨ (q' + 1 = z + 1 ∧ r' - s = y - s ∧ s ≤ y) ∨ (q' + 1 = z + 2 ∧ r' - s = y - 2 * s ∧ 2 * s ≤ y)) := hide (by omega)
            clear hr hy hz
            go_wp2
            go_round
            case rel => exact ⟨q' + 1, r' - s, by go_num, by go_num, HR.out⟩
            case measure => simp [intOf]; omega
          · have c3 : decide (s ≤ r') = false := decide_eq_false hge
            have HR : Hid (PartRel T p s q' r' Q) := hide (K.out q' r' (by
              rcases hr with ⟨e1, e2⟩ | ⟨e1, e2, _⟩ | ⟨e1, e2, _⟩
              · rw [e1, e2, ← hz, ← hy]
              · rw [e1, e2, ← hz, ← hy, Int.add_mul]; omega
              · rw [e1, e2, ← hz, ← hy, Int.add_mul]; omega) m3 (by omega) m1)
            clear hr hy hz
            go_wp2
            go_round
            case rel => exact ⟨q', r', Q, by go_num, by go_num, by go_num, HR⟩
            case measure => simp [intOf]; omega
      · have ha := i64_and_is hor (by omega) (by omega)
        have K := hide (k2 hor)
        have b5 : 2 * r < 2 * s := by omega
        have b6 : 0 ≤ 2 * r := by omega
        clear hor k1 k2 hP HP e2 hQ hQ'
        go_wp2
        generalize hy : 2 * r = y at *
        generalize hz : 2 * q = z at *
        go_loop [7, 8] (fun v7 v8 => ∃ q' r' : Int, v7 = .int .i64 q' ∧ v8 = .int .i64 r' ∧ ((q' = z ∧ r' = y) ∨ (q' = z + 1 ∧ r' = y - s ∧ s ≤ y))) (fun _ v8 => (intOf v8).toNat)
        case atStart => exact ⟨z, y, rfl, rfl, .inl ⟨rfl, rfl⟩⟩
        case round =>
          obtain ⟨q', r', rfl, rfl, hr⟩ := hrel
          have hbd : 0 ≤ q' ∧ q' ≤ 2251799813685250 ∧ 0 ≤ r' ∧ r' ≤ 3458764513820540928 := by omega
          obtain ⟨m1, m2, m3, m4⟩ := hbd
          by_cases hge : s ≤ r'
          · have c3 : decide (s ≤ r') = true := decide_eq_true hge
            have HR : Hid ((q' + 1 = z ∧ r' - s = y) ∨ (q' + 1 = z + 1 ∧ r' - s = y - s ∧ s ≤ y)) := hide (by omega)
            clear hr hy hz
            go_wp2
            go_round
            case rel => exact ⟨q' + 1, r' - s, by go_num, by go_num, HR.out⟩
            case measure => simp [intOf]; omega
          · have c3 : decide (s ≤ r') = false := decide_eq_false hge
            have HR : Hid (PartRel T p s q' r' Q) := hide (K.out q' r' (by
              rcases hr with ⟨e1, e2⟩ | ⟨e1, e2, _⟩
              · rw [e1, e2, ← hz, ← hy]
              · rw [e1, e2, ← hz, ← hy, Int.add_mul]; omega) m3 (by omega) m1)
            clear hr hy hz
            go_wp2
            go_round
            case rel => exact ⟨q', r', Q, by go_num, by go_num, by go_num, HR⟩
            case measure => simp [intOf]; omega
    · have e : P = 1 := by
        obtain ⟨j, e1, _⟩ := HP.out
        have := Nat.two_pow_pos j
        omega
      subst e
      have E := hide (part_end hs HP.out)
      clear HP hb
      go_wp2
      go_ret
      exact ⟨ret_int E.out.symm, rfl⟩
end Go.Proofs.YtaaadejamjbcbaaDoor
