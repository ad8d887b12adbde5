/- The program's ascends, find and mix, and slices.BinarySearch: what each returns; nothing that was there is turned. -/
import Derived.Test.YtnhimgabcljahaaGreatDoorItSl
import Derived.Deep.QuietTactic
import Derived.BigQuiet
namespace Go.Proofs.YtnhimgabcljahaaGreatDoor
open Go.RowKit

theorem all_range_no {n : Nat} {p : Nat → Bool} {i : Nat} (hi : i < n) (h : p i = false) : (List.range n).all p = false := by
  rw [List.all_eq_false]; exact ⟨i, List.mem_range.2 hi, by simp [h]⟩
theorem ascB_no {l : List Int} {count most : Int} {i : Nat} (hi : i < l.length) (h : okA l most i = false) : ascB l count most = false := by
  unfold ascB; rw [all_range_no hi h]; rfl
theorem ascB_yes {l : List Int} {count most : Int} (h : ∀ i, i < l.length → okA l most i = true) : ascB l count most = decide (1 ≤ l.length ∧ (l.length : Int) ≤ count) := by
  unfold ascB; rw [all_range.2 h]; rfl
theorem okA_zero {l : List Int} {most x : Int} (e : l.getD 0 0 = x) : okA l most 0 = decide (1 ≤ x ∧ x ≤ most) := by subst e; simp [okA]
theorem okA_succ {l : List Int} {most x y : Int} {j : Nat} (e : l.getD (j + 1) 0 = x) (e' : l.getD j 0 = y) : okA l most (j + 1) = decide (1 ≤ x ∧ x ≤ most ∧ y < x) := by subst e e'; simp [okA]
set_option maxHeartbeats 1000000 in
theorem ascends_any (l : List Int) (A : Option Addr) (cap : Nat) (count most : Int) (w : World) (hl : IntSl w A l) :
    Calls Tryz.prog 32 #[.slice A l.length cap, .int .i64 count, .int .i64 most] w fun e w' => e = .returned (.bool (ascB l count most)) ∧ w = w' := by
  have hlen : l.length ≤ 9223372036854775807 := hl.1.1
  have HL := hide hl
  clear hl
  go_enter Tryz.func32, Tryz.ntmps32
  go_wp2
  go_loop [11] (fun v => ∃ k : Nat, k ≤ l.length ∧ v = .int .i64 k ∧ Hid (∀ i, i < k → okA l most i = true)) (fun v => l.length - (intOf v).toNat)
  case atStart => exact ⟨0, Nat.zero_le _, rfl, hide (fun _ h => by omega)⟩
  case round =>
    obtain ⟨k, hk, rfl, hno⟩ := hrel
    by_cases hlt : k < l.length
    · obtain ⟨b, off, rfl, hbl, hat⟩ := HL.out.at_ (by omega)
      have c0 := hat k hlt
      have step : Hid (okA l most k = true → ∀ i, i < k + 1 → okA l most i = true) := hide fun h i hi => by
        by_cases e : i = k
        · subst e; exact h
        · exact hno.out i (by omega)
      have stop := hide (@ascB_no l count most k hlt)
      cases k with
      | zero =>
        clear hat
        rw [Nat.add_zero] at c0
        have HX := hide (@okA_zero l most (l.getD 0 0) rfl)
        generalize l.getD 0 0 = x at *
        have t : x < 1 ∨ (1 ≤ x ∧ most < x) ∨ (1 ≤ x ∧ x ≤ most) := by omega
        rcases t with t | ⟨t1, t2⟩ | ⟨t1, t2⟩
        · go_wp2
          go_ret
          exact ⟨ret_bool (stop.out (by rw [HX.out]; simp; omega)).symm, rfl⟩
        · go_wp2
          go_ret
          exact ⟨ret_bool (stop.out (by rw [HX.out]; simp; omega)).symm, rfl⟩
        · go_wp2
          go_round
          case rel => exact ⟨1, by omega, by go_num, hide (step.out (by rw [HX.out]; simp; omega))⟩
          case measure => simp [intOf]; omega
      | succ j =>
        have c1 := hat j (by omega)
        clear hat
        have HX := hide (@okA_succ l most (l.getD (j + 1) 0) (l.getD j 0) j rfl rfl)
        generalize l.getD (j + 1) 0 = x at *
        generalize l.getD j 0 = y at *
        have t : x < 1 ∨ (1 ≤ x ∧ most < x) ∨ (1 ≤ x ∧ x ≤ most ∧ x ≤ y) ∨ (1 ≤ x ∧ x ≤ most ∧ y < x) := by omega
        rcases t with t | ⟨t1, t2⟩ | ⟨t1, t2, t3⟩ | ⟨t1, t2, t3⟩
        · go_wp2
          go_ret
          exact ⟨ret_bool (stop.out (by rw [HX.out]; simp; omega)).symm, rfl⟩
        · go_wp2
          go_ret
          exact ⟨ret_bool (stop.out (by rw [HX.out]; simp; omega)).symm, rfl⟩
        · go_wp2
          go_ret
          exact ⟨ret_bool (stop.out (by rw [HX.out]; simp; omega)).symm, rfl⟩
        · go_wp2
          go_round
          case rel => exact ⟨j + 1 + 1, by omega, by go_num, hide (step.out (by rw [HX.out]; simp; omega))⟩
          case measure => simp [intOf]; omega
    · have hv := hide (@ascB_yes l count most (fun i hi => hno.out i (by omega)))
      have e : k = l.length := by omega
      subst e
      clear hno
      by_cases h1 : 1 ≤ l.length <;> by_cases h2 : (l.length : Int) ≤ count
      all_goals
        go_wp2
        go_ret
        exact ⟨ret_bool (by rw [hv.out]; simp; omega), rfl⟩

set_option maxHeartbeats 400000 in
theorem cmpNaN_any (x : Int) (w : World) : Calls Tryz.prog 92 #[.int .i64 x] w fun e w' => e = .returned (.bool false) ∧ w = w' := by
  go_enter Tryz.func92, Tryz.ntmps92
  go_wp2
  go_ret
  exact ⟨ret_bool (by simp), rfl⟩
set_option maxHeartbeats 400000 in
theorem slNaN_any (x : Int) (w : World) : Calls Tryz.prog 74 #[.int .i64 x] w fun e w' => e = .returned (.bool false) ∧ w = w' := by
  go_enter Tryz.func74, Tryz.ntmps74
  go_wp2
  go_ret
  exact ⟨ret_bool (by simp), rfl⟩
set_option maxHeartbeats 400000 in
theorem less_any (x y : Int) (w : World) : Calls Tryz.prog 73 #[.int .i64 x, .int .i64 y] w fun e w' => e = .returned (.bool (decide (x < y))) ∧ w = w' := by
  go_enter Tryz.func73, Tryz.ntmps73
  go_wp2_with (go_at_call 92; refine (cmpNaN_any _ _).mono ?_; rintro e w' ⟨rfl, rfl⟩)
  go_ret
  exact ⟨ret_bool rfl, rfl⟩
/-- how many numbers are below x -/
theorem cnt_pred_le (l : List Int) (x : Int) : cnt l (x - 1) ≤ l.length := cnt_le l _
theorem srch_lt {l : List Int} (ha : Asc l) {x : Int} {h : Nat} (hh : h < l.length) : (l.getD h 0 < x ↔ h < cnt l (x - 1)) := by
  rw [← cnt_iff ha hh]; omega
def hitB (l : List Int) (x : Int) : Bool := decide (cnt l (x - 1) < l.length ∧ l.getD (cnt l (x - 1)) 0 = x)
set_option maxHeartbeats 1000000 in
theorem search_any (l : List Int) (A : Option Addr) (cap : Nat) (x : Int) (w : World) (hl : IntSl w A l) (ha : Asc l) (hn : l.length ≤ 1000) :
    Calls Tryz.prog 57 #[.slice A l.length cap, .int .i64 x] w fun e w' => e = .returned (.tuple #[.int .i64 (cnt l (x - 1) : Nat), .bool (hitB l x)]) ∧ w = w' := by
  have HL := hide hl
  have HC := hide (cnt_pred_le l x)
  have HS := hide (fun h (hh : h < l.length) => srch_lt ha (x := x) hh)
  clear hl ha
  go_enter Tryz.func57, Tryz.ntmps57
  go_wp2
  go_loop [7, 8] (fun v7 v8 => ∃ i j : Nat, i ≤ j ∧ j ≤ l.length ∧ v7 = .int .i64 i ∧ v8 = .int .i64 j ∧ Hid (i ≤ cnt l (x - 1) ∧ cnt l (x - 1) ≤ j)) (fun v7 v8 => (intOf v8).toNat - (intOf v7).toNat)
  case atStart => exact ⟨0, l.length, Nat.zero_le _, Nat.le_refl _, rfl, rfl, hide ⟨Nat.zero_le _, HC.out⟩⟩
  case round =>
    obtain ⟨i, j, hij, hj, rfl, rfl, hc⟩ := hrel
    by_cases hlt : i < j
    · obtain ⟨b, off, rfl, hbl, hat⟩ := HL.out.at_ (by omega)
      obtain ⟨h, hh⟩ : ∃ h : Nat, h = (i + j) / 2 := ⟨_, rfl⟩
      have h1 : i ≤ h := by omega
      have h2 : h < j := by omega
      have c0 := hat h (by omega)
      have hs := hide (HS.out h (by omega))
      have e1 : IntKind.u64.wrap ((i : Int) + (j : Int)) = ((i + j : Nat) : Int) := by rw [IntKind.wrap_u64]; omega
      have e2 : ((i + j : Nat) : Int) / 2 = (h : Int) := by omega
      have e3 : ((i : Int) + (j : Int)) / 2 = (h : Int) := by omega
      clear hat hh
      generalize l.getD h 0 = y at *
      by_cases t : y < x
      · have ht := hide (hs.out.1 t)
        go_wp2_with fail
        refine (less_any _ _ _).mono ?_
        rintro e w' ⟨rfl, rfl⟩
        go_wp2
        go_round
        case rel => exact ⟨h + 1, j, by omega, by omega, by go_num, rfl, hide (by have := ht.out; have := hc.out; omega)⟩
        case measure => simp [intOf]; omega
      · have ht := hide (show ¬ h < cnt l (x - 1) from fun k => t (hs.out.2 k))
        go_wp2_with fail
        refine (less_any _ _ _).mono ?_
        rintro e w' ⟨rfl, rfl⟩
        go_wp2
        go_round
        case rel => exact ⟨i, h, by omega, by omega, rfl, rfl, hide (by have := ht.out; have := hc.out; omega)⟩
        case measure => simp [intOf]; omega
    · have e : i = j := by omega
      subst e
      have e2 : i = cnt l (x - 1) := by have := hc.out; omega
      have HE := hide e2
      have HH := hide (show hitB l x = decide (i < l.length ∧ l.getD i 0 = x) by rw [e2]; rfl)
      clear e2 hc HS
      by_cases hlt2 : i < l.length
      · obtain ⟨b, off, rfl, hbl, hat⟩ := HL.out.at_ (by omega)
        have c0 := hat i hlt2
        clear hat
        generalize l.getD i 0 = y at *
        by_cases t : y = x
        · have q : (y == x) = true := by simp [t]
          have HT := hide t
          clear t
          go_wp2
          go_ret2
          exact ⟨by rw [HH.out, HE.out]; simp [HT.out]; rw [← HE.out]; exact hlt2, rfl⟩
        · have q : (y == x) = false := by simp [t]
          have HT := hide t
          clear t
          go_wp2_with (go_at_call 74; refine (slNaN_any _ _).mono ?_; rintro e w' ⟨rfl, rfl⟩)
          go_ret2
          exact ⟨by rw [HH.out, HE.out]; simp [HT.out], rfl⟩
      · go_wp2
        go_ret2
        exact ⟨by have := HE.out; rw [HH.out]; simp; omega, rfl⟩
end Go.Proofs.YtnhimgabcljahaaGreatDoor
