/- The program's Valid on tables: for every table; nothing that was there is turned. -/
import Derived.Test.YtnhimgabcljahaaGreatDoorItFn
namespace Go.Proofs.YtnhimgabcljahaaGreatDoor
open Go.RowKit

theorem okC_00 {T : Tab} {x : Int} (e : T.cell 0 0 = x) : okC T 0 0 = decide (0 ≤ x ∧ x ≤ 4194304) := by subst e; simp [okC]
theorem okC_0s {T : Tab} {k : Nat} {x y : Int} (e : T.cell 0 (k + 1) = x) (e' : T.cell 0 k = y) : okC T 0 (k + 1) = decide (0 ≤ x ∧ x ≤ 4194304 ∧ y ≤ x) := by subst e e'; simp [okC]
theorem okC_s0 {T : Tab} {i : Nat} {x z : Int} (e : T.cell (i + 1) 0 = x) (e' : T.cell i 0 = z) : okC T (i + 1) 0 = decide (0 ≤ x ∧ x ≤ 4194304 ∧ z ≤ x) := by subst e e'; simp [okC]
theorem okC_ss {T : Tab} {i k : Nat} {x y z : Int} (e : T.cell (i + 1) (k + 1) = x) (e' : T.cell (i + 1) k = y) (e2 : T.cell i (k + 1) = z) : okC T (i + 1) (k + 1) = decide (0 ≤ x ∧ x ≤ 4194304 ∧ y ≤ x ∧ z ≤ x) := by subst e e' e2; simp [okC]
theorem okR_no {T : Tab} {i : Nat} (h : ¬ (T.rows.getD i []).length = T.ds.length) : okR T i = false := by unfold okR; rw [decide_eq_false h]; rfl
theorem okR_noC {T : Tab} {i k : Nat} (hk : k < T.ds.length) (h : okC T i k = false) : okR T i = false := by
  unfold okR; rw [all_range_no hk h]; simp
theorem okR_yes {T : Tab} {i : Nat} (h : (T.rows.getD i []).length = T.ds.length) (h2 : ∀ k, k < T.ds.length → okC T i k = true) : okR T i = true := by
  unfold okR; rw [all_range.2 h2, decide_eq_true h]; rfl
theorem okR_len {T : Tab} {i : Nat} (h : okR T i = true) : (T.rows.getD i []).length = T.ds.length := by
  simp only [okR, Bool.and_eq_true, decide_eq_true_eq] at h; exact h.1
theorem vT_d {T : Tab} (h : ascB T.ds 100 2592000 = false) : vT T = false := by simp [vT, h]
theorem vT_p {T : Tab} (h : ascB T.ps 20 10000 = false) : vT T = false := by simp [vT, h]
theorem vT_n {T : Tab} (h : ¬ T.rows.length = T.ps.length) : vT T = false := by simp [vT, h]
theorem vT_r {T : Tab} {i : Nat} (hi : i < T.rows.length) (h : okR T i = false) : vT T = false := by
  unfold vT; rw [all_range_no hi h]; simp
theorem vT_yes {T : Tab} (h1 : ascB T.ds 100 2592000 = true) (h2 : ascB T.ps 20 10000 = true) (h3 : T.rows.length = T.ps.length) (h4 : ∀ i, i < T.rows.length → okR T i = true) : vT T = true := by
  unfold vT; rw [h1, h2, all_range.2 h4]; simp [h3]
theorem RowsSl.row {w : World} {A : Option Addr} {rows : List (List Int)} (h : RowsSl w A rows) {i : Nat} (hi : i < rows.length) :
    ∃ b off R c, A = some ⟨b, off, none⟩ ∧ b < w.heap.size ∧ w.cell? ⟨b, off + i, none⟩ = some (.slice R (rows.getD i []).length c) ∧ IntSl w R (rows.getD i []) := by
  obtain ⟨b, off, e, hb, hat⟩ := h.2 (by omega)
  obtain ⟨R, c, h1, h2, _⟩ := hat i hi
  exact ⟨b, off, R, c, e, hb, h1, h2⟩
def BoolPost (v : Bool) (w : World) (e : Ending) (w' : World) : Prop := e = .returned (.bool v) ∧ Below w.heap.size w w'
theorem BoolPost.mk {v b : Bool} {w w' : World} (h : v = b) (hb : Below w.heap.size w w') : BoolPost v w (.returned (.bool b)) w' := by subst h; exact ⟨rfl, hb⟩
set_option maxRecDepth 100000 in
set_option maxHeartbeats 4000000 in
theorem tvalid_any (T : Tab) (a : TabA) (w : World) (ht : TabSl w T a) :
    Calls Tryz.prog 17 #[T.val a] w (BoolPost (vT T) w) := by
  obtain ⟨A1, A2, A3, k1, k2, k3⟩ := a
  have X := (Own.start w).alloc #[.slice A1 T.ds.length k1, .slice A2 T.ps.length k2, .slice A3 T.rows.length k3] 25
  have l1 : T.ds.length ≤ 9223372036854775807 := ht.1.1.1
  have l2 : T.ps.length ≤ 9223372036854775807 := ht.2.1.1.1
  have l3 : T.rows.length ≤ 9223372036854775807 := by have := ht.2.2.1.1; unfold maxLen at this; omega
  have HT := hide (ht.below X.1)
  clear ht
  rcases Bool.eq_false_or_eq_true (ascB T.ds 100 2592000) with t1 | t1
  rotate_left
  · have V := hide (vT_d t1)
    go_enter Tryz.func17, Tryz.ntmps17
    go_wp2_with fail
    refine (ascends_any T.ds A1 k1 100 2592000 _ HT.out.1).mono ?_
    rintro e w' ⟨rfl, rfl⟩
    rw [t1]
    go_wp2
    go_ret
    exact BoolPost.mk V.out X.1
  rcases Bool.eq_false_or_eq_true (ascB T.ps 20 10000) with t2 | t2
  rotate_left
  · have V := hide (vT_p t2)
    go_enter Tryz.func17, Tryz.ntmps17
    go_wp2_with fail
    refine (ascends_any T.ds A1 k1 100 2592000 _ HT.out.1).mono ?_
    rintro e w' ⟨rfl, rfl⟩
    rw [t1]
    go_wp2_with fail
    refine (ascends_any T.ps A2 k2 20 10000 _ HT.out.2.1).mono ?_
    rintro e w' ⟨rfl, rfl⟩
    rw [t2]
    go_wp2
    go_ret
    exact BoolPost.mk V.out X.1
  by_cases t3 : T.rows.length = T.ps.length
  rotate_left
  · have V := hide (vT_n t3)
    have q : ((T.rows.length : Int) != (T.ps.length : Int)) = true := by simp; omega
    clear t3
    go_enter Tryz.func17, Tryz.ntmps17
    go_wp2_with fail
    refine (ascends_any T.ds A1 k1 100 2592000 _ HT.out.1).mono ?_
    rintro e w' ⟨rfl, rfl⟩
    rw [t1]
    go_wp2_with fail
    refine (ascends_any T.ps A2 k2 20 10000 _ HT.out.2.1).mono ?_
    rintro e w' ⟨rfl, rfl⟩
    rw [t2]
    go_wp2
    go_ret
    exact BoolPost.mk V.out X.1
  have q : ((T.rows.length : Int) != (T.ps.length : Int)) = false := by simp; omega
  have T3 := hide t3
  clear t3
  have HX := hide X.1
  have hr := X.r1
  go_enter Tryz.func17, Tryz.ntmps17
  go_wp2_with fail
  refine (ascends_any T.ds A1 k1 100 2592000 _ HT.out.1).mono ?_
  rintro e w' ⟨rfl, rfl⟩
  rw [t1]
  go_wp2_with fail
  refine (ascends_any T.ps A2 k2 20 10000 _ HT.out.2.1).mono ?_
  rintro e w' ⟨rfl, rfl⟩
  rw [t2]
  have T1 := hide t1
  have T2 := hide t2
  clear t1 t2 X
  go_wp2
  clear q
  generalize w.alloc (.cells #[.slice A1 T.ds.length k1, .slice A2 T.ps.length k2, .slice A3 T.rows.length k3] 25) = W at *
  go_loop [29] (fun v => ∃ k : Nat, k ≤ T.rows.length ∧ v = .int .i64 k ∧ Hid (∀ i, i < k → okR T i = true)) (fun v => T.rows.length - (intOf v).toNat)
  case atStart => exact ⟨0, Nat.zero_le _, rfl, hide (fun _ h => by omega)⟩
  case round =>
    obtain ⟨k, hk, rfl, hno⟩ := hrel
    by_cases hlt : k < T.rows.length
    · obtain ⟨b, off, R, c, rfl, hbl, c0, hR⟩ := HT.out.2.2.1.row hlt
      obtain ⟨row, hrow⟩ : ∃ row, row = T.rows.getD k [] := ⟨_, rfl⟩
      have HW := hide hrow
      have CE : Hid (∀ m, T.cell k m = row.getD m 0) := hide fun m => by rw [HW.out]; rfl
      have STOP := hide (fun h => vT_r (T := T) hlt h)
      have STEP : Hid (okR T k = true → ∀ i, i < k + 1 → okR T i = true) := hide fun h i hi => by
        by_cases e : i = k
        · subst e; exact h
        · exact hno.out i (by omega)
      rw [← hrow] at c0 hR
      have HR := hide hR
      have hrl : row.length ≤ 9223372036854775807 := hR.1.1
      clear hrow hR
      by_cases hl : row.length = T.ds.length
      rotate_left
      · have V := hide (STOP.out (okR_no (by rw [← HW.out]; exact hl)))
        have q : ((row.length : Int) != (T.ds.length : Int)) = true := by simp; omega
        clear hl
        go_wp2
        go_ret
        exact BoolPost.mk V.out HX.out
      · have q : ((row.length : Int) != (T.ds.length : Int)) = false := by simp; omega
        have HL := hide hl
        clear hl
        have hrd : row.length ≤ T.ds.length := by rw [HL.out]; omega
        go_wp2
        clear q
        go_loop [42] (fun v => ∃ m : Nat, m ≤ row.length ∧ v = .int .i64 m ∧ Hid (∀ i, i < m → okC T k i = true)) (fun v => row.length - (intOf v).toNat)
        case atStart => exact ⟨0, Nat.zero_le _, rfl, hide (fun _ h => by omega)⟩
        case round =>
          obtain ⟨m, hm, rfl, hnc⟩ := hrel
          by_cases hlm : m < row.length
          · have hmd : m < T.ds.length := by omega
            obtain ⟨b2, off2, rfl, hbl2, hat⟩ := HR.out.at_ (by omega)
            have STOPC := hide (fun h => STOP.out (okR_noC hmd h))
            have STEPC : Hid (okC T k m = true → ∀ i, i < m + 1 → okC T k i = true) := hide fun h i hi => by
              by_cases e : i = m
              · subst e; exact h
              · exact hnc.out i (by omega)
            have d0 := hat m hlm
            cases k with
            | zero =>
              cases m with
              | zero =>
                rw [Nat.add_zero] at d0
                have OK := hide (okC_00 (T := T) rfl)
                have ex := hide (CE.out 0)
                clear hat hnc
                generalize row.getD 0 0 = x at *
                rw [ex.out] at OK
                have t : x < 0 ∨ (¬ x < 0 ∧ 4194304 < x) ∨ (0 ≤ x ∧ x ≤ 4194304) := by omega
                rcases t with t | ⟨t4, t5⟩ | ⟨t4, t5⟩
                · go_wp2
                  go_ret
                  exact BoolPost.mk (STOPC.out (by rw [OK.out]; simp; omega)) HX.out
                · go_wp2
                  go_ret
                  exact BoolPost.mk (STOPC.out (by rw [OK.out]; simp; omega)) HX.out
                · go_wp2
                  go_round
                  case rel => exact ⟨_, _, _, _, ⟨1, by omega, by go_num, hide (STEPC.out (by rw [OK.out]; simp; omega))⟩, rfl, rfl, rfl, rfl⟩
                  case measure => simp [intOf]; omega
              | succ m =>
                have d1 := hat m (by omega)
                have OK := hide (okC_0s (T := T) (k := m) rfl rfl)
                have ex := hide (CE.out (m + 1))
                have ey := hide (CE.out m)
                clear hat hnc
                generalize row.getD (m + 1) 0 = x at *
                generalize row.getD m 0 = y at *
                rw [ex.out, ey.out] at OK
                have t : x < 0 ∨ (¬ x < 0 ∧ 4194304 < x) ∨ (0 ≤ x ∧ x ≤ 4194304 ∧ x < y) ∨ (0 ≤ x ∧ x ≤ 4194304 ∧ y ≤ x) := by omega
                rcases t with t | ⟨t4, t5⟩ | ⟨t4, t5, t6⟩ | ⟨t4, t5, t6⟩
                · go_wp2
                  go_ret
                  exact BoolPost.mk (STOPC.out (by rw [OK.out]; simp; omega)) HX.out
                · go_wp2
                  go_ret
                  exact BoolPost.mk (STOPC.out (by rw [OK.out]; simp; omega)) HX.out
                · go_wp2
                  go_ret
                  exact BoolPost.mk (STOPC.out (by rw [OK.out]; simp; omega)) HX.out
                · go_wp2
                  go_round
                  case rel => exact ⟨_, _, _, _, ⟨m + 1 + 1, by omega, by go_num, hide (STEPC.out (by rw [OK.out]; simp; omega))⟩, rfl, rfl, rfl, rfl⟩
                  case measure => simp [intOf]; omega
            | succ k =>
              obtain ⟨b', off', R', c', eA', hbl', c1, hR'⟩ := HT.out.2.2.1.row (i := k) (by omega)
              cases eA'
              obtain ⟨row', hrow'⟩ : ∃ row', row' = T.rows.getD k [] := ⟨_, rfl⟩
              have hl' := okR_len (hno.out k (by omega))
              have CE' : Hid (∀ m, T.cell k m = row'.getD m 0) := hide fun m => by rw [hrow']; rfl
              rw [← hrow'] at c1 hR' hl'
              clear hrow'
              obtain ⟨b3, off3, rfl, hbl3, hat3⟩ := hR'.at_ (by omega)
              have u0 := hat3 m (by omega)
              have hm' : (m : Int) < (row'.length : Int) := by omega
              have hm0 : m < row'.length := by omega
              clear hat3 hR' hl'
              cases m with
              | zero =>
                rw [Nat.add_zero] at d0 u0
                have OK := hide (okC_s0 (T := T) (i := k) rfl rfl)
                have ex := hide (CE.out 0)
                have ez := hide (CE'.out 0)
                clear hat hnc
                generalize row.getD 0 0 = x at *
                generalize row'.getD 0 0 = z at *
                rw [ex.out, ez.out] at OK
                have t : x < 0 ∨ (¬ x < 0 ∧ 4194304 < x) ∨ (0 ≤ x ∧ x ≤ 4194304 ∧ x < z) ∨ (0 ≤ x ∧ x ≤ 4194304 ∧ z ≤ x) := by omega
                rcases t with t | ⟨t4, t5⟩ | ⟨t4, t5, t6⟩ | ⟨t4, t5, t6⟩
                · go_wp2
                  go_ret
                  exact BoolPost.mk (STOPC.out (by rw [OK.out]; simp; omega)) HX.out
                · go_wp2
                  go_ret
                  exact BoolPost.mk (STOPC.out (by rw [OK.out]; simp; omega)) HX.out
                · go_wp2
                  go_ret
                  exact BoolPost.mk (STOPC.out (by rw [OK.out]; simp; omega)) HX.out
                · go_wp2
                  go_round
                  case rel => exact ⟨_, _, _, _, ⟨1, by omega, by go_num, hide (STEPC.out (by rw [OK.out]; simp; omega))⟩, rfl, rfl, rfl, rfl⟩
                  case measure => simp [intOf]; omega
              | succ m =>
                have d1 := hat m (by omega)
                have OK := hide (okC_ss (T := T) (i := k) (k := m) rfl rfl rfl)
                have ex := hide (CE.out (m + 1))
                have ey := hide (CE.out m)
                have ez := hide (CE'.out (m + 1))
                clear hat hnc
                generalize row.getD (m + 1) 0 = x at *
                generalize row.getD m 0 = y at *
                generalize row'.getD (m + 1) 0 = z at *
                rw [ex.out, ey.out, ez.out] at OK
                have t : x < 0 ∨ (¬ x < 0 ∧ 4194304 < x) ∨ (0 ≤ x ∧ x ≤ 4194304 ∧ x < y) ∨ (0 ≤ x ∧ x ≤ 4194304 ∧ y ≤ x ∧ x < z) ∨ (0 ≤ x ∧ x ≤ 4194304 ∧ y ≤ x ∧ z ≤ x) := by omega
                rcases t with t | ⟨t4, t5⟩ | ⟨t4, t5, t6⟩ | ⟨t4, t5, t6, t7⟩ | ⟨t4, t5, t6, t7⟩
                · go_wp2
                  go_ret
                  exact BoolPost.mk (STOPC.out (by rw [OK.out]; simp; omega)) HX.out
                · go_wp2
                  go_ret
                  exact BoolPost.mk (STOPC.out (by rw [OK.out]; simp; omega)) HX.out
                · go_wp2
                  go_ret
                  exact BoolPost.mk (STOPC.out (by rw [OK.out]; simp; omega)) HX.out
                · go_wp2
                  go_ret
                  exact BoolPost.mk (STOPC.out (by rw [OK.out]; simp; omega)) HX.out
                · go_wp2
                  go_round
                  case rel => exact ⟨_, _, _, _, ⟨m + 1 + 1, by omega, by go_num, hide (STEPC.out (by rw [OK.out]; simp; omega))⟩, rfl, rfl, rfl, rfl⟩
                  case measure => simp [intOf]; omega
          · have OKR := hide (okR_yes (by rw [← HW.out]; exact HL.out) (fun i hi => hnc.out i (by have := HL.out; omega)))
            clear hnc
            go_wp2
            go_round
            case rel => exact ⟨k + 1, by omega, by go_num, hide (STEP.out OKR.out)⟩
            case measure => simp [intOf]; omega
    · have V := hide (vT_yes T1.out T2.out T3.out (fun i hi => hno.out i (by omega)))
      clear hno
      go_wp2
      go_ret
      exact BoolPost.mk V.out HX.out
end Go.Proofs.YtnhimgabcljahaaGreatDoor
