/- The reference's Floor, Ceil, down, up, Sqrt, Root: what each returns; they leave the world as it is, but for a box. -/
import Derived.Test.YtgflgnbbkhikcaaDoorSpQuo
import Derived.Test.YtgflgnbbkhikcaaDoorSpRef
import Derived.Test.YtgflgnbbkhikcaaDoorSpRoot
namespace Go.Proofs.YtgflgnbbkhikcaaDoor
open Go.RowKit

set_option maxHeartbeats 1000000 in
theorem rfloor_any (n d : Int) (w : World) (hd : 0 < d) (hd' : d ≤ 72057594037927936) (h1 : -72057594037927936 ≤ n) (h2 : n ≤ 72057594037927936) :
    Calls Tryd.prog 69 #[.int .i64 n, .int .i64 d] w fun e w' => e = .returned (.int .i64 (dn n d)) ∧ w = w' := by
  obtain ⟨b1, b2, b3, b4⟩ := tdiv_abs hd h1 h2
  have E := hide (dn_tdiv (n := n) hd)
  have T := hide (tdiv_bd (n := n) hd)
  rcases Int.lt_or_le n 0 with hn | hn
  · by_cases hq : n < n.tdiv d * d
    · have E2 : Hid (dn n d = n.tdiv d - 1) := hide (by rw [E.out, if_pos hq])
      clear E T
      go_enter Tryd.func69, Tryd.ntmps69
      go_wp2
      go_ret
      exact ⟨ret_int E2.out.symm, rfl⟩
    · have E2 : Hid (dn n d = n.tdiv d) := hide (by rw [E.out, if_neg hq])
      clear E T
      go_enter Tryd.func69, Tryd.ntmps69
      go_wp2
      go_ret
      exact ⟨ret_int E2.out.symm, rfl⟩
  · have e : n.tdiv d = n / d := Int.tdiv_eq_ediv_of_nonneg hn
    have q := T.out.2.2.1 hn
    have hq : ¬ n < n.tdiv d * d := by omega
    have E2 : Hid (dn n d = n / d) := hide (by rw [E.out, if_neg hq, e])
    rw [e] at b1 b2 b3 b4 hq
    clear E T e q
    go_enter Tryd.func69, Tryd.ntmps69
    go_wp2
    go_ret
    exact ⟨ret_int E2.out.symm, rfl⟩
set_option maxHeartbeats 1000000 in
theorem rdown_any (n d : Int) (w : World) (hd : d ≠ 0) (hd1 : -72057594037927936 ≤ d) (hd' : d ≤ 72057594037927936) (h1 : -72057594037927936 ≤ n) (h2 : n ≤ 72057594037927936) :
    Calls Tryd.prog 50 #[.int .i64 n, .int .i64 d] w fun e w' => e = .returned (.int .i64 (dn n d)) ∧ w = w' := by
  rcases Int.lt_or_le d 0 with h | h
  · have E := hide (dn_neg n d h)
    clear hd
    go_enter Tryd.func50, Tryd.ntmps50
    go_wp2_with fail
    refine (rfloor_any (-n) (-d) _ (by omega) (by omega) (by omega) (by omega)).mono ?_
    rintro e w' ⟨rfl, rfl⟩
    go_wp2
    go_ret
    exact ⟨ret_int E.out.symm, rfl⟩
  · have h0 : 0 < d := by omega
    clear hd
    go_enter Tryd.func50, Tryd.ntmps50
    go_wp2_with fail
    refine (rfloor_any n d _ (by omega) (by omega) (by omega) (by omega)).mono ?_
    rintro e w' ⟨rfl, rfl⟩
    go_wp2
    go_ret
    exact ⟨rfl, rfl⟩
set_option maxHeartbeats 1000000 in
theorem rup_any (n d : Int) (w : World) (hd : d ≠ 0) (hd1 : -72057594037927936 ≤ d) (hd' : d ≤ 72057594037927936) (h1 : -72057594037927936 ≤ n) (h2 : n ≤ 72057594037927936) :
    Calls Tryd.prog 51 #[.int .i64 n, .int .i64 d] w fun e w' => e = .returned (.int .i64 (up n d)) ∧ w = w' := by
  have B := dn_bd2 (n := -n) hd (by omega) (by omega)
  have E : Hid (up n d = -dn (-n) d) := hide rfl
  have D := fun w => rdown_any (-n) d w hd hd1 hd' (by omega) (by omega)
  obtain ⟨B1, B2⟩ := B
  clear hd
  go_enter Tryd.func51, Tryd.ntmps51
  go_wp2_with fail
  refine (D _).mono ?_
  rintro e w' ⟨rfl, rfl⟩
  go_wp2
  go_ret
  exact ⟨ret_int E.out.symm, rfl⟩
set_option maxHeartbeats 1000000 in
theorem rsqrt_any (n : Int) (w : World) (h0 : 0 ≤ n) (h1 : n ≤ 72057594037927936) : Calls Tryd.prog 49 #[.int .i64 n] w fun e w' => e = .returned (.int .i64 (isq n)) ∧ w = w' := by
  go_enter Tryd.func49, Tryd.ntmps49
  go_wp2
  go_loop [3, 4] (fun v3 v4 => ∃ x y : Int, v3 = .int .i64 x ∧ v4 = .int .i64 y ∧ 0 ≤ x ∧ x ≤ y ∧ y ≤ 1073741824 ∧ Hid (x * x ≤ n ∧ n < (y + 1) * (y + 1))) (fun v3 v4 => (intOf v4 - intOf v3).toNat)
  case atStart => exact ⟨0, 1073741824, rfl, rfl, by omega, by omega, by omega, hide ⟨by omega, by omega⟩⟩
  case round =>
    obtain ⟨x, y, rfl, rfl, x0, xy, y1, H⟩ := hrel
    by_cases hlt : x < y
    · have m1 : x + 1 ≤ (x + y + 1) / 2 ∧ (x + y + 1) / 2 ≤ y := by omega
      obtain ⟨m1, m2⟩ := m1
      have m3 : 0 ≤ (x + y + 1) / 2 * ((x + y + 1) / 2) := Int.mul_nonneg (by omega) (by omega)
      have m4 : (x + y + 1) / 2 * ((x + y + 1) / 2) ≤ 1152921504606846976 := by
        have := sq_le (a := (x + y + 1) / 2) (b := 1073741824) (by omega) (by omega)
        omega
      by_cases hq : (x + y + 1) / 2 * ((x + y + 1) / 2) ≤ n
      · have HQ := hide hq
        go_wp2
        go_round
        case rel => exact ⟨_, _, rfl, rfl, by omega, by omega, by omega, hide ⟨HQ.out, H.out.2⟩⟩
        case measure => simp [intOf]; omega
      · have HQ := hide hq
        go_wp2
        go_round
        case rel => exact ⟨_, _, rfl, rfl, by omega, by omega, by omega, hide ⟨H.out.1, by rw [show (x + y + 1) / 2 - 1 + 1 = (x + y + 1) / 2 by omega]; have := HQ.out; omega⟩⟩
        case measure => simp [intOf]; omega
    · have e : y = x := by omega
      have E := hide (isq_uniq h0 x0 H.out.1 (by have := H.out.2; rw [e] at this; exact this))
      clear H
      go_wp2
      go_ret
      exact ⟨ret_int E.out.symm, rfl⟩

set_option maxHeartbeats 1000000 in
theorem rRoot_any (a : Sp) (w : World) (ha : vB a = true) : Calls Tryd.prog 19 #[a.val] w (RetSE (rooS a) (rooE a) w) := by
  have X := ((Own.start w).alloc #[.int .i64 a.lo, .int .i64 a.hi] 23).alloc #[.int .i64 0, .int .i64 0] 23
  simp only [World.size_alloc] at X
  obtain ⟨h1, h2, h3⟩ := vB_iff.1 ha
  rcases Int.lt_or_le a.lo 0 with h0 | h0
  · have H := hide (roo_neg ha h0)
    clear ha
    go_enter Tryd.func19, Tryd.ntmps19
    have hr := X.r2
    go_wp2
    exact bodyPost_ret (v := .tuple #[Sp.zero.val, .int .i64 2]) (by simp [results, Tryd.results19, Sp.zero, go_sem]) rfl (RetSE.mk (by go_grown) H.out.2 H.out.1)
  have H := hide (roo_yes ha h0)
  obtain ⟨k1, k2, k3, k4⟩ := isq_small (n := a.hi) (by omega) h3
  have U1 : isq a.hi * isq a.hi < a.hi → isqU a.hi = isq a.hi + 1 := fun h => by simp [isqU, h]
  have U2 : ¬ isq a.hi * isq a.hi < a.hi → isqU a.hi = isq a.hi := fun h => by simp [isqU, h]
  replace U1 := hide U1
  replace U2 := hide U2
  clear ha
  by_cases hq : isq a.hi * isq a.hi < a.hi
  · have U := hide (U1.out hq)
    clear U1 U2
    go_enter Tryd.func19, Tryd.ntmps19
    have hr := X.r2
    go_wp2_with fail
    refine (rsqrt_any a.hi _ (by omega) (by omega)).mono ?_
    rintro e w' ⟨rfl, rfl⟩
    go_wp2_with fail
    refine (rsqrt_any a.lo _ (by omega) (by omega)).mono ?_
    rintro e w' ⟨rfl, rfl⟩
    go_wp2
    exact bodyPost_ret (v := .tuple #[.agg #[.int .i64 (isq a.lo), .int .i64 (isq a.hi + 1)], .int .i64 0]) (by simp [results, Tryd.results19, go_sem]) rfl (RetSE.mk (s' := ⟨isq a.lo, isq a.hi + 1⟩) (by go_grown) (by rw [H.out.2, U.out]) H.out.1)
  · have U := hide (U2.out hq)
    clear U1 U2
    go_enter Tryd.func19, Tryd.ntmps19
    have hr := X.r2
    go_wp2_with fail
    refine (rsqrt_any a.hi _ (by omega) (by omega)).mono ?_
    rintro e w' ⟨rfl, rfl⟩
    go_wp2_with fail
    refine (rsqrt_any a.lo _ (by omega) (by omega)).mono ?_
    rintro e w' ⟨rfl, rfl⟩
    go_wp2
    exact bodyPost_ret (v := .tuple #[.agg #[.int .i64 (isq a.lo), .int .i64 (isq a.hi)], .int .i64 0]) (by simp [results, Tryd.results19, go_sem]) rfl (RetSE.mk (s' := ⟨isq a.lo, isq a.hi⟩) (by go_grown) (by rw [H.out.2, U.out]) H.out.1)
end Go.Proofs.YtgflgnbbkhikcaaDoor
