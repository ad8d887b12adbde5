/- The reference's ascends, Within, place and row: what each returns; each draws at most. -/
import Derived.Test.YtjnifgheipmanaaItRg
namespace Go.Proofs.Ytjnifgheipmanaa
open Go.RowKit

def ascR (l : List Int) (most : Int) : Bool := (List.range l.length).all (okA l most)
theorem ascR_no {l : List Int} {most : Int} {i : Nat} (hi : i < l.length) (h : okA l most i = false) : ascR l most = false := all_range_no hi h
theorem ascR_yes {l : List Int} {most : Int} (h : ∀ i, i < l.length → okA l most i = true) : ascR l most = true := all_range.2 h
set_option maxHeartbeats 4000000 in
theorem rfascends_any (l : List Int) (A : Option Addr) (cap : Nat) (most : Int) (w : World) (hl : IntSl w A l) :
    Calls Try.prog 34 #[.slice A l.length cap, .int .i64 most] w fun e w' => e = .returned (.bool (ascR l most)) ∧ ∃ d, w' = w.drewN d := by
  have hlen : l.length ≤ 9223372036854775807 := hl.1.1
  have HL := hide hl
  clear hl
  go_enter Try.func34, Try.ntmps34
  go_wp2
  go_loopw [5] (fun v wr => ∃ k : Nat, k ≤ l.length ∧ v = .int .i64 k ∧ (∃ d, wr = w.drewN d) ∧ Hid (∀ i, i < k → okA l most i = true)) (fun v _ => l.length - (intOf v).toNat)
  case atStart => exact ⟨0, Nat.zero_le _, rfl, ⟨0, by simp [World.drewN_zero]⟩, hide (fun _ h => by omega)⟩
  case round =>
    obtain ⟨k, hk, rfl, ⟨d, rfl⟩, hno⟩ := hrel
    by_cases hlt : k < l.length
    · obtain ⟨b, off, rfl, hbl, hat⟩ := HL.out.at_ (by omega)
      have c0 := hat k hlt
      have step : Hid (okA l most k = true → ∀ i, i < k + 1 → okA l most i = true) := hide fun h i hi => by
        by_cases e : i = k
        · subst e; exact h
        · exact hno.out i (by omega)
      have stop := hide (@ascR_no l most k hlt)
      cases k with
      | zero =>
        clear hat
        have k0 : (0 : Int) < (l.length : Int) := by omega
        rw [Nat.add_zero] at c0
        have HX := hide (@okA_zero l most (l.getD 0 0) rfl)
        generalize l.getD 0 0 = x at *
        have t : x < 1 ∨ (1 ≤ x ∧ most < x) ∨ (1 ≤ x ∧ x ≤ most) := by omega
        rcases t with t | ⟨t1, t2⟩ | ⟨t1, t2⟩
        · have q1 : decide (x < 1) = true := decide_eq_true t
          have TT := hide (And.intro (And.intro t trivial) trivial)
          clear t
          go_wp2
          go_quiet (fail)
          go_wp2
          go_ret
          exact ⟨ret_bool (stop.out (by rw [HX.out]; have := TT.out; simp; omega)).symm, d + nq, by first | (rw [World.drewN_drewN]) | (exact rfl)⟩
        · have q1 : decide (x < 1) = false := decide_eq_false (by omega)
          have q2 : decide (most < x) = true := decide_eq_true (by omega)
          have TT := hide (And.intro t1 (And.intro t2 trivial))
          clear t1 t2
          go_wp2
          go_quiet (fail)
          go_wp2
          go_ret
          exact ⟨ret_bool (stop.out (by rw [HX.out]; have := TT.out; simp; omega)).symm, d + nq, by first | (rw [World.drewN_drewN]) | (exact rfl)⟩
        · have q1 : decide (x < 1) = false := decide_eq_false (by omega)
          have q2 : decide (most < x) = false := decide_eq_false (by omega)
          have TT := hide (And.intro t1 (And.intro t2 trivial))
          clear t1 t2
          go_wp2
          go_quiet (fail)
          go_wp2
          go_roundw
          case rel => exact ⟨1, by omega, by go_num, ⟨d + nq, by first | (rw [World.drewN_drewN]) | (exact rfl)⟩, hide (step.out (by rw [HX.out]; have := TT.out; simp; omega))⟩
          case measure => simp [intOf]; omega
      | succ j =>
        have c1 := hat j (by omega)
        clear hat
        have HX := hide (@okA_succ l most (l.getD (j + 1) 0) (l.getD j 0) j rfl rfl)
        have p1 : (0 : Int) < (j : Int) + 1 := by omega
        have p2 : (0 : Int) ≤ (j : Int) + 1 := by omega
        have p3 : (0 : Int) ≤ (j : Int) := by omega
        have p4 : (j : Int) < (l.length : Int) := by omega
        have p5 : (j : Int) + 1 < (l.length : Int) := by omega
        generalize l.getD (j + 1) 0 = x at *
        generalize l.getD j 0 = y at *
        have t : x < 1 ∨ (1 ≤ x ∧ most < x) ∨ (1 ≤ x ∧ x ≤ most ∧ x ≤ y) ∨ (1 ≤ x ∧ x ≤ most ∧ y < x) := by omega
        rcases t with t | ⟨t1, t2⟩ | ⟨t1, t2, t3⟩ | ⟨t1, t2, t3⟩
        · have q1 : decide (x < 1) = true := decide_eq_true t
          have TT := hide (And.intro (And.intro t trivial) trivial)
          clear t
          go_wp2
          go_quiet (fail)
          go_wp2
          go_ret
          exact ⟨ret_bool (stop.out (by rw [HX.out]; have := TT.out; simp; omega)).symm, d + nq, by first | (rw [World.drewN_drewN]) | (exact rfl)⟩
        · have q1 : decide (x < 1) = false := decide_eq_false (by omega)
          have q2 : decide (most < x) = true := decide_eq_true (by omega)
          have TT := hide (And.intro t1 (And.intro t2 trivial))
          clear t1 t2
          go_wp2
          go_quiet (fail)
          go_wp2
          go_ret
          exact ⟨ret_bool (stop.out (by rw [HX.out]; have := TT.out; simp; omega)).symm, d + nq, by first | (rw [World.drewN_drewN]) | (exact rfl)⟩
        · have q1 : decide (x < 1) = false := decide_eq_false (by omega)
          have q2 : decide (most < x) = false := decide_eq_false (by omega)
          have q3 : decide (x ≤ y) = true := decide_eq_true (by omega)
          have TT := hide (And.intro t1 (And.intro t2 t3))
          clear t1 t2 t3
          go_wp2
          go_quiet (fail)
          go_wp2
          go_ret
          exact ⟨ret_bool (stop.out (by rw [HX.out]; have := TT.out; simp; omega)).symm, d + nq, by first | (rw [World.drewN_drewN]) | (exact rfl)⟩
        · have q1 : decide (x < 1) = false := decide_eq_false (by omega)
          have q2 : decide (most < x) = false := decide_eq_false (by omega)
          have q3 : decide (x ≤ y) = false := decide_eq_false (by omega)
          have TT := hide (And.intro t1 (And.intro t2 t3))
          clear t1 t2 t3
          go_wp2
          go_quiet (fail)
          go_wp2
          go_roundw
          case rel => exact ⟨j + 1 + 1, by omega, by go_num, ⟨d + nq, by first | (rw [World.drewN_drewN]) | (exact rfl)⟩, hide (step.out (by rw [HX.out]; have := TT.out; simp; omega))⟩
          case measure => simp [intOf]; omega
    · have hv := hide (@ascR_yes l most (fun i hi => hno.out i (by omega)))
      have e : k = l.length := by omega
      subst e
      clear hno
      go_wp2
      go_ret
      exact ⟨ret_bool hv.out.symm, d, rfl⟩
end Go.Proofs.Ytjnifgheipmanaa
