/- The reference's Valid (printed by gen_rvalid.py). -/
import Derived.Test.YtjnifgheipmanaaItRf
import Derived.Test.YtjnifgheipmanaaWd
namespace Go.Proofs.Ytjnifgheipmanaa
open Go.RowKit

theorem ascB_eq (l : List Int) (c most : Int) : ascB l c most = (ascR l most && decide (1 ≤ l.length ∧ (l.length : Int) ≤ c)) := rfl
set_option maxRecDepth 100000 in
set_option maxHeartbeats 8000000 in
theorem rfvalid_any (T : Tab) (a : TabA) (w : World) (ht : TabSl w T a) :
    Calls Try.prog 13 #[T.val a] w (BoolPost (vT T) w) := by
  obtain ⟨A1, A2, A3, k1, k2, k3⟩ := a
  have X := (Own.start w).alloc #[.slice A1 T.ds.length k1, .slice A2 T.ps.length k2, .slice A3 T.rows.length k3] 25
  have l1 : T.ds.length ≤ 9223372036854775807 := ht.1.1.1
  have l2 : T.ps.length ≤ 9223372036854775807 := ht.2.1.1.1
  have l3 : T.rows.length ≤ 9223372036854775807 := by have := ht.2.2.1.1; unfold maxLen at this; omega
  have HT := hide ht
  clear ht
  have hr := X.r1
  have tt : (T.ds.length < 1) ∨ (1 ≤ T.ds.length ∧ 100 < T.ds.length) ∨ (1 ≤ T.ds.length ∧ T.ds.length ≤ 100 ∧ T.ps.length < 1) ∨ (1 ≤ T.ds.length ∧ T.ds.length ≤ 100 ∧ 1 ≤ T.ps.length ∧ 20 < T.ps.length) ∨
      (1 ≤ T.ds.length ∧ T.ds.length ≤ 100 ∧ 1 ≤ T.ps.length ∧ T.ps.length ≤ 20 ∧ T.rows.length ≠ T.ps.length) ∨ (1 ≤ T.ds.length ∧ T.ds.length ≤ 100 ∧ 1 ≤ T.ps.length ∧ T.ps.length ≤ 20 ∧ T.rows.length = T.ps.length) := by omega
  rcases tt with a1 | ⟨a1, a2⟩ | ⟨a1, a2, a3⟩ | ⟨a1, a2, a3, a4⟩ | ⟨a1, a2, a3, a4, a5⟩ | ⟨a1, a2, a3, a4, t3⟩
  · have V := hide (vT_d (T := T) (by rw [ascB_eq, decide_eq_false (by omega), Bool.and_false]))
    go_enter Try.func13, Try.ntmps13
    go_wp2
    go_ret
    exact BoolPost.mk V.out X.1
  · have V := hide (vT_d (T := T) (by rw [ascB_eq, decide_eq_false (by omega), Bool.and_false]))
    go_enter Try.func13, Try.ntmps13
    go_wp2
    go_ret
    exact BoolPost.mk V.out X.1
  · have V := hide (vT_p (T := T) (by rw [ascB_eq, decide_eq_false (by omega), Bool.and_false]))
    go_enter Try.func13, Try.ntmps13
    go_wp2
    go_ret
    exact BoolPost.mk V.out X.1
  · have V := hide (vT_p (T := T) (by rw [ascB_eq, decide_eq_false (by omega), Bool.and_false]))
    go_enter Try.func13, Try.ntmps13
    go_wp2
    go_ret
    exact BoolPost.mk V.out X.1
  · have V := hide (vT_n a5)
    have q : ((T.rows.length : Int) != (T.ps.length : Int)) = true := by simp; omega
    clear a5
    go_enter Try.func13, Try.ntmps13
    go_wp2
    go_ret
    exact BoolPost.mk V.out X.1
  have q : ((T.rows.length : Int) != (T.ps.length : Int)) = false := by simp; omega
  have T3 := hide t3
  clear t3
  have B1 := fun h : ascR T.ds 2592000 = true => (show ascB T.ds 100 2592000 = true by rw [ascB_eq, h, decide_eq_true (by omega)]; rfl)
  have B2 := fun h : ascR T.ps 10000 = true => (show ascB T.ps 20 10000 = true by rw [ascB_eq, h, decide_eq_true (by omega)]; rfl)
  go_enter Try.func13, Try.ntmps13
  go_wp2_with fail
  refine (rfascends_any T.ds A1 k1 2592000 _ (HT.out.1.below X.1)).mono ?_
  rintro e w' ⟨rfl, d, rfl⟩
  replace X := X.drewN' d
  clear hr
  have hr := X.r1
  generalize World.drewN _ d = W1 at *
  rcases Bool.eq_false_or_eq_true (ascR T.ds 2592000) with t1 | t1
  rotate_left
  · have V := hide (vT_d (T := T) (show ascB T.ds 100 2592000 = false by rw [ascB_eq, t1, Bool.false_and]))
    rw [t1]
    clear B1 B2
    go_wp2
    go_ret
    exact BoolPost.mk V.out X.1
  rw [t1]
  have T1 := hide (B1 t1)
  clear t1 B1
  go_wp2_with fail
  refine (rfascends_any T.ps A2 k2 10000 _ (HT.out.2.1.below X.1)).mono ?_
  rintro e w' ⟨rfl, d2, rfl⟩
  replace X := X.drewN' d2
  clear hr
  have hr := X.r1
  generalize World.drewN _ d2 = W2 at *
  rcases Bool.eq_false_or_eq_true (ascR T.ps 10000) with t1 | t1
  rotate_left
  · have V := hide (vT_p (T := T) (show ascB T.ps 20 10000 = false by rw [ascB_eq, t1, Bool.false_and]))
    rw [t1]
    clear B2
    go_wp2
    go_ret
    exact BoolPost.mk V.out X.1
  rw [t1]
  have T2 := hide (B2 t1)
  clear t1 B2
  go_wp2
  clear q hr a1 a2 a3 a4
  replace X := hide X
  go_loopw [3] (fun v Wq => ∃ k : Nat, k ≤ T.rows.length ∧ v = .int .i64 k ∧ Own w Wq [(w.heap.size, 25, #[.slice A1 T.ds.length k1, .slice A2 T.ps.length k2, .slice A3 T.rows.length k3])] ∧ Hid (∀ i, i < k → okR T i = true)) (fun v _ => T.rows.length - (intOf v).toNat)
  case atStart => exact ⟨0, Nat.zero_le _, rfl, X.out, hide (fun _ h => by omega)⟩
  case round =>
    obtain ⟨k, hk, rfl, Y, hno⟩ := hrel
    clear X
    have hr := Y.r1
    by_cases hlt : k < T.rows.length
    · obtain ⟨b, off, R, c, rfl, hbl, c0, hR⟩ := HT.out.2.2.1.row hlt
      replace c0 := (Y.1.cell (p := ⟨b, off + k, none⟩) hbl).trans c0
      have YH := hide Y
      clear Y
      obtain ⟨row, hrow⟩ : ∃ row, row = T.rows.getD k [] := ⟨_, rfl⟩
      have HW := hide hrow
      have CE : Hid (∀ m, T.cell k m = row.getD m 0) := hide fun m => by rw [HW.out]; rfl
      have STOP := hide (fun h => vT_r (T := T) hlt h)
      have STEP : Hid (okR T k = true → ∀ i, i < k + 1 → okR T i = true) := hide fun h i hi => by
        by_cases e : i = k
        · subst e; exact h
        · exact hno.out i (by omega)
      rw [← hrow] at c0 hR
      have HR := hide hR
      have hrl : row.length ≤ 9223372036854775807 := hR.1.1
      clear hrow hR
      by_cases hl : row.length = T.ds.length
      rotate_left
      · have V := hide (STOP.out (okR_no (by rw [← HW.out]; exact hl)))
        have q : ((row.length : Int) != (T.ds.length : Int)) = true := by simp; omega
        clear hl
        go_wp2
        go_ret
        exact BoolPost.mk V.out YH.out.1
      · have q : ((row.length : Int) != (T.ds.length : Int)) = false := by simp; omega
        have HL := hide hl
        clear hl
        have hrd : row.length ≤ T.ds.length := by rw [HL.out]; omega
        go_wp2
        clear q
        clear hr c0
        go_loopw [5] (fun v Wq => ∃ m : Nat, m ≤ row.length ∧ v = .int .i64 m ∧ Own w Wq [(w.heap.size, 25, #[.slice A1 T.ds.length k1, .slice A2 T.ps.length k2, .slice (some ⟨b, off, none⟩) T.rows.length k3])] ∧ Hid (∀ i, i < m → okC T k i = true)) (fun v _ => row.length - (intOf v).toNat)
        case atStart => exact ⟨0, Nat.zero_le _, rfl, YH.out, hide (fun _ h => by omega)⟩
        case round =>
          obtain ⟨m, hm, rfl, Z0, hnc⟩ := hrel
          clear YH
          have hr := Z0.r1
          have Z := hide Z0
          clear Z0
          by_cases hlm : m < row.length
          · have hmd : m < T.ds.length := by omega
            obtain ⟨b2, off2, rfl, hbl2, hat⟩ := HR.out.at_ (by omega)
            have STOPC := hide (fun h => STOP.out (okR_noC hmd h))
            have STEPC : Hid (okC T k m = true → ∀ i, i < m + 1 → okC T k i = true) := hide fun h i hi => by
              by_cases e : i = m
              · subst e; exact h
              · exact hnc.out i (by omega)
            have d0 := (Z.out.1.cell (p := ⟨b2, off2 + m, none⟩) hbl2).trans (hat m hlm)
            cases k with
            | zero =>
              cases m with
              | zero =>
                rw [Nat.add_zero] at d0
                have OK := hide (okC_00 (T := T) rfl)
                have ex := hide (CE.out 0)
                clear hat hnc
                generalize row.getD 0 0 = x at *
                rw [ex.out] at OK
                have t : (x < 0) ∨ (0 ≤ x ∧ 4194304 < x) ∨ (0 ≤ x ∧ x ≤ 4194304) := by omega
                rcases t with t1 | ⟨t1, t2⟩ | ⟨t1, t2⟩
                · have q1 : decide (x < 0) = true := decide_eq_true (by omega)
                  have TT := hide (And.intro t1 trivial)
                  clear t1
                  go_wp2
                  go_quiet (fail)
                  go_wp2
                  go_ret
                  exact BoolPost.mk (STOPC.out (by rw [OK.out]; have := TT.out; simp; omega)) (Z.out.drewN' nq).1
                · have q1 : decide (x < 0) = false := decide_eq_false (by omega)
                  have q2 : decide (4194304 < x) = true := decide_eq_true (by omega)
                  have TT := hide (And.intro t1 (And.intro t2 trivial))
                  clear t1 t2
                  go_wp2
                  go_quiet (fail)
                  go_wp2
                  go_ret
                  exact BoolPost.mk (STOPC.out (by rw [OK.out]; have := TT.out; simp; omega)) (Z.out.drewN' nq).1
                · have q1 : decide (x < 0) = false := decide_eq_false (by omega)
                  have q2 : decide (4194304 < x) = false := decide_eq_false (by omega)
                  have TT := hide (And.intro t1 (And.intro t2 trivial))
                  clear t1 t2
                  go_wp2
                  go_quiet (fail)
                  go_wp2
                  go_roundw
                  case rel => exact ⟨1, by omega, by go_num, (Z.out.drewN' nq), hide (STEPC.out (by rw [OK.out]; have := TT.out; simp; omega))⟩
                  case measure => simp [intOf]; omega
              | succ m =>
                have d1 := (Z.out.1.cell (p := ⟨b2, off2 + m, none⟩) hbl2).trans (hat m (by omega))
                have OK := hide (okC_0s (T := T) (k := m) rfl rfl)
                have ex := hide (CE.out (m + 1))
                have ey := hide (CE.out m)
                clear hat hnc
                generalize row.getD (m + 1) 0 = x at *
                generalize row.getD m 0 = y at *
                rw [ex.out, ey.out] at OK
                have t : (x < 0) ∨ (0 ≤ x ∧ 4194304 < x) ∨ (0 ≤ x ∧ x ≤ 4194304 ∧ x < y) ∨ (0 ≤ x ∧ x ≤ 4194304 ∧ y ≤ x) := by omega
                rcases t with t1 | ⟨t1, t2⟩ | ⟨t1, t2, t3⟩ | ⟨t1, t2, t3⟩
                · have q1 : decide (x < 0) = true := decide_eq_true (by omega)
                  have TT := hide (And.intro t1 trivial)
                  clear t1
                  go_wp2
                  go_quiet (fail)
                  go_wp2
                  go_ret
                  exact BoolPost.mk (STOPC.out (by rw [OK.out]; have := TT.out; simp; omega)) (Z.out.drewN' nq).1
                · have q1 : decide (x < 0) = false := decide_eq_false (by omega)
                  have q2 : decide (4194304 < x) = true := decide_eq_true (by omega)
                  have TT := hide (And.intro t1 (And.intro t2 trivial))
                  clear t1 t2
                  go_wp2
                  go_quiet (fail)
                  go_wp2
                  go_ret
                  exact BoolPost.mk (STOPC.out (by rw [OK.out]; have := TT.out; simp; omega)) (Z.out.drewN' nq).1
                · have q1 : decide (x < 0) = false := decide_eq_false (by omega)
                  have q2 : decide (4194304 < x) = false := decide_eq_false (by omega)
                  have q3 : decide (x < y) = true := decide_eq_true (by omega)
                  have TT := hide (And.intro t1 (And.intro t2 (And.intro t3 trivial)))
                  clear t1 t2 t3
                  go_wp2
                  go_quiet (fail)
                  go_wp2
                  go_ret
                  exact BoolPost.mk (STOPC.out (by rw [OK.out]; have := TT.out; simp; omega)) (Z.out.drewN' nq).1
                · have q1 : decide (x < 0) = false := decide_eq_false (by omega)
                  have q2 : decide (4194304 < x) = false := decide_eq_false (by omega)
                  have q3 : decide (x < y) = false := decide_eq_false (by omega)
                  have TT := hide (And.intro t1 (And.intro t2 (And.intro t3 trivial)))
                  clear t1 t2 t3
                  go_wp2
                  go_quiet (fail)
                  go_wp2
                  go_roundw
                  case rel => exact ⟨m + 1 + 1, by omega, by go_num, (Z.out.drewN' nq), hide (STEPC.out (by rw [OK.out]; have := TT.out; simp; omega))⟩
                  case measure => simp [intOf]; omega
            | succ k =>
              obtain ⟨b', off', R', c', eA', hbl', c1, hR'⟩ := HT.out.2.2.1.row (i := k) (by omega)
              cases eA'
              obtain ⟨row', hrow'⟩ : ∃ row', row' = T.rows.getD k [] := ⟨_, rfl⟩
              have hl' := okR_len (hno.out k (by omega))
              have CE' : Hid (∀ m, T.cell k m = row'.getD m 0) := hide fun m => by rw [hrow']; rfl
              rw [← hrow'] at c1 hR' hl'
              clear hrow'
              obtain ⟨b3, off3, rfl, hbl3, hat3⟩ := hR'.at_ (by omega)
              have u0 := (Z.out.1.cell (p := ⟨b3, off3 + m, none⟩) hbl3).trans (hat3 m (by omega))
              replace c1 := (Z.out.1.cell (p := ⟨b, off + k, none⟩) hbl).trans c1
              have hm' : (m : Int) < (row'.length : Int) := by omega
              have hm0 : m < row'.length := by omega
              clear hat3 hR' hl'
              cases m with
              | zero =>
                rw [Nat.add_zero] at d0 u0
                have OK := hide (okC_s0 (T := T) (i := k) rfl rfl)
                have ex := hide (CE.out 0)
                have ez := hide (CE'.out 0)
                clear hat hnc
                generalize row.getD 0 0 = x at *
                generalize row'.getD 0 0 = z at *
                rw [ex.out, ez.out] at OK
                have t : (x < 0) ∨ (0 ≤ x ∧ 4194304 < x) ∨ (0 ≤ x ∧ x ≤ 4194304 ∧ x < z) ∨ (0 ≤ x ∧ x ≤ 4194304 ∧ z ≤ x) := by omega
                rcases t with t1 | ⟨t1, t2⟩ | ⟨t1, t2, t3⟩ | ⟨t1, t2, t3⟩
                · have q1 : decide (x < 0) = true := decide_eq_true (by omega)
                  have TT := hide (And.intro t1 trivial)
                  clear t1
                  go_wp2
                  go_quiet (fail)
                  go_wp2
                  go_ret
                  exact BoolPost.mk (STOPC.out (by rw [OK.out]; have := TT.out; simp; omega)) (Z.out.drewN' nq).1
                · have q1 : decide (x < 0) = false := decide_eq_false (by omega)
                  have q2 : decide (4194304 < x) = true := decide_eq_true (by omega)
                  have TT := hide (And.intro t1 (And.intro t2 trivial))
                  clear t1 t2
                  go_wp2
                  go_quiet (fail)
                  go_wp2
                  go_ret
                  exact BoolPost.mk (STOPC.out (by rw [OK.out]; have := TT.out; simp; omega)) (Z.out.drewN' nq).1
                · have q1 : decide (x < 0) = false := decide_eq_false (by omega)
                  have q2 : decide (4194304 < x) = false := decide_eq_false (by omega)
                  have q4 : decide (x < z) = true := decide_eq_true (by omega)
                  have TT := hide (And.intro t1 (And.intro t2 (And.intro t3 trivial)))
                  clear t1 t2 t3
                  go_wp2
                  go_quiet (fail)
                  go_wp2
                  go_ret
                  exact BoolPost.mk (STOPC.out (by rw [OK.out]; have := TT.out; simp; omega)) (Z.out.drewN' nq).1
                · have q1 : decide (x < 0) = false := decide_eq_false (by omega)
                  have q2 : decide (4194304 < x) = false := decide_eq_false (by omega)
                  have q4 : decide (x < z) = false := decide_eq_false (by omega)
                  have TT := hide (And.intro t1 (And.intro t2 (And.intro t3 trivial)))
                  clear t1 t2 t3
                  go_wp2
                  go_quiet (fail)
                  go_wp2
                  go_roundw
                  case rel => exact ⟨1, by omega, by go_num, (Z.out.drewN' nq), hide (STEPC.out (by rw [OK.out]; have := TT.out; simp; omega))⟩
                  case measure => simp [intOf]; omega
              | succ m =>
                have d1 := (Z.out.1.cell (p := ⟨b2, off2 + m, none⟩) hbl2).trans (hat m (by omega))
                have OK := hide (okC_ss (T := T) (i := k) (k := m) rfl rfl rfl)
                have ex := hide (CE.out (m + 1))
                have ey := hide (CE.out m)
                have ez := hide (CE'.out (m + 1))
                clear hat hnc
                generalize row.getD (m + 1) 0 = x at *
                generalize row.getD m 0 = y at *
                generalize row'.getD (m + 1) 0 = z at *
                rw [ex.out, ey.out, ez.out] at OK
                have t : (x < 0) ∨ (0 ≤ x ∧ 4194304 < x) ∨ (0 ≤ x ∧ x ≤ 4194304 ∧ x < y) ∨ (0 ≤ x ∧ x ≤ 4194304 ∧ y ≤ x ∧ x < z) ∨ (0 ≤ x ∧ x ≤ 4194304 ∧ y ≤ x ∧ z ≤ x) := by omega
                rcases t with t1 | ⟨t1, t2⟩ | ⟨t1, t2, t3⟩ | ⟨t1, t2, t3, t4⟩ | ⟨t1, t2, t3, t4⟩
                · have q1 : decide (x < 0) = true := decide_eq_true (by omega)
                  have TT := hide (And.intro t1 trivial)
                  clear t1
                  go_wp2
                  go_quiet (fail)
                  go_wp2
                  go_ret
                  exact BoolPost.mk (STOPC.out (by rw [OK.out]; have := TT.out; simp; omega)) (Z.out.drewN' nq).1
                · have q1 : decide (x < 0) = false := decide_eq_false (by omega)
                  have q2 : decide (4194304 < x) = true := decide_eq_true (by omega)
                  have TT := hide (And.intro t1 (And.intro t2 trivial))
                  clear t1 t2
                  go_wp2
                  go_quiet (fail)
                  go_wp2
                  go_ret
                  exact BoolPost.mk (STOPC.out (by rw [OK.out]; have := TT.out; simp; omega)) (Z.out.drewN' nq).1
                · have q1 : decide (x < 0) = false := decide_eq_false (by omega)
                  have q2 : decide (4194304 < x) = false := decide_eq_false (by omega)
                  have q3 : decide (x < y) = true := decide_eq_true (by omega)
                  have TT := hide (And.intro t1 (And.intro t2 (And.intro t3 trivial)))
                  clear t1 t2 t3
                  go_wp2
                  go_quiet (fail)
                  go_wp2
                  go_ret
                  exact BoolPost.mk (STOPC.out (by rw [OK.out]; have := TT.out; simp; omega)) (Z.out.drewN' nq).1
                · have q1 : decide (x < 0) = false := decide_eq_false (by omega)
                  have q2 : decide (4194304 < x) = false := decide_eq_false (by omega)
                  have q3 : decide (x < y) = false := decide_eq_false (by omega)
                  have q4 : decide (x < z) = true := decide_eq_true (by omega)
                  have TT := hide (And.intro t1 (And.intro t2 (And.intro t3 (And.intro t4 trivial))))
                  clear t1 t2 t3 t4
                  go_wp2
                  go_quiet (fail)
                  go_wp2
                  go_ret
                  exact BoolPost.mk (STOPC.out (by rw [OK.out]; have := TT.out; simp; omega)) (Z.out.drewN' nq).1
                · have q1 : decide (x < 0) = false := decide_eq_false (by omega)
                  have q2 : decide (4194304 < x) = false := decide_eq_false (by omega)
                  have q3 : decide (x < y) = false := decide_eq_false (by omega)
                  have q4 : decide (x < z) = false := decide_eq_false (by omega)
                  have TT := hide (And.intro t1 (And.intro t2 (And.intro t3 (And.intro t4 trivial))))
                  clear t1 t2 t3 t4
                  go_wp2
                  go_quiet (fail)
                  go_wp2
                  go_roundw
                  case rel => exact ⟨m + 1 + 1, by omega, by go_num, (Z.out.drewN' nq), hide (STEPC.out (by rw [OK.out]; have := TT.out; simp; omega))⟩
                  case measure => simp [intOf]; omega
          · have OKR := hide (okR_yes (by rw [← HW.out]; exact HL.out) (fun i hi => hnc.out i (by have := HL.out; omega)))
            clear hnc
            go_wp2
            go_roundw
            case rel => exact ⟨k + 1, by omega, by go_num, Z.out, hide (STEP.out OKR.out)⟩
            case measure => simp [intOf]; omega
    · have V := hide (vT_yes T1.out T2.out T3.out (fun i hi => hno.out i (by omega)))
      clear hno
      go_wp2
      go_ret
      exact BoolPost.mk V.out Y.1
end Go.Proofs.Ytjnifgheipmanaa
