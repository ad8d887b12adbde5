/- Square roots: the program's root and Root, the reference's Sqrt and Root; nothing that was there is turned. -/
import Derived.Test.YtgflgnbbkhikcaaDoorSpFn
namespace Go.Proofs.YtgflgnbbkhikcaaDoor
open Go.RowKit

theorem or_pow (m s : Nat) : m * 2 ^ (s + 1) ||| 2 ^ s = m * 2 ^ (s + 1) + 2 ^ s := by
  have h := Nat.two_pow_add_eq_or_of_lt (i := s + 1) (b := 2 ^ s) (Nat.pow_lt_pow_right (by omega) (by omega)) m
  rw [Nat.mul_comm (2 ^ (s + 1)) m] at h
  exact h.symm
theorem i64_or {a b c : Nat} (h : a ||| b = c) (ha : a < 9223372036854775808) (hb : b < 9223372036854775808) : bits .or .i64 (a : Int) (b : Int) = (c : Int) := by rw [i64_or_nat a b ha hb, h]
def RootRel (n : Int) (r P : Nat) : Prop := ∃ s m : Nat, P = 2 ^ s ∧ s ≤ 29 ∧ r = m * 2 ^ s ∧ r + P ≤ 2 ^ 29 ∧ ((r * r : Nat) : Int) ≤ n ∧ n < (((r + P) * (r + P) : Nat) : Int)
theorem root_start {n : Int} (h0 : 0 ≤ n) (h1 : n ≤ 72057594037927936) : RootRel n 0 536870912 := ⟨29, 0, by decide, by omega, by simp, by decide, by simpa using h0, by
  have : (((0 + 536870912) * (0 + 536870912) : Nat) : Int) = 288230376151711744 := by decide
  omega⟩
/-- one round: the bit is half of P -/
theorem root_round {n : Int} {r P : Nat} (h : RootRel n r P) (hP : 1 < P) : ∃ Q : Nat, P = 2 * Q ∧ 0 < Q ∧ (r ||| Q = r + Q) ∧ r + Q < 2 ^ 29 ∧ r < 2 ^ 29 ∧ Q < 2 ^ 29 ∧
    ((((r + Q) * (r + Q) : Nat) : Int) ≤ n → RootRel n (r + Q) Q) ∧ (n < (((r + Q) * (r + Q) : Nat) : Int) → RootRel n r Q) := by
  obtain ⟨s, m, e1, e2, e3, e4, e5, e6⟩ := h
  rcases s with _ | s
  · simp at e1; omega
  have hpow : 2 ^ (s + 1) = 2 * 2 ^ s := by rw [Nat.pow_succ, Nat.mul_comm]
  have hq : 0 < 2 ^ s := Nat.two_pow_pos s
  have ho := or_pow m s
  rw [← e3] at ho
  have e3' : r = 2 * m * 2 ^ s := by rw [e3, hpow, ← Nat.mul_assoc, Nat.mul_comm m 2]
  have e3'' : r + 2 ^ s = (2 * m + 1) * 2 ^ s := by rw [e3', Nat.add_mul]; omega
  refine ⟨2 ^ s, by omega, hq, ho, by omega, by omega, by omega, fun h => ⟨s, 2 * m + 1, rfl, by omega, e3'', by omega, h, ?_⟩, fun h => ⟨s, 2 * m, rfl, by omega, e3', by omega, e5, h⟩⟩
  rw [show r + 2 ^ s + 2 ^ s = r + P by omega]
  exact e6
theorem root_end {n : Int} {r : Nat} (h0 : 0 ≤ n) (h : RootRel n r 1) : isq n = r := by
  obtain ⟨s, m, e1, e2, e3, e4, e5, e6⟩ := h
  refine isq_uniq h0 (by omega) ?_ ?_
  · simpa using e5
  · simpa using e6
set_option maxHeartbeats 1000000 in
theorem root_any (n : Int) (w : World) (h0 : 0 ≤ n) (h1 : n ≤ 72057594037927936) : Calls Tryd.prog 48 #[.int .i64 n] w fun e w' => e = .returned (.int .i64 (isq n)) ∧ w = w' := by
  go_enter Tryd.func48, Tryd.ntmps48
  go_wp2
  go_loop [3, 4] (fun v3 v4 => ∃ r P : Nat, v3 = .int .i64 r ∧ v4 = .int .i64 ((P / 2 : Nat) : Int) ∧ RootRel n r P) (fun _ v4 => (intOf v4).toNat)
  case atStart => exact ⟨0, 536870912, rfl, rfl, root_start h0 h1⟩
  case round =>
    obtain ⟨r, P, rfl, rfl, hrel⟩ := hrel
    by_cases hP : 1 < P
    · obtain ⟨Q, rfl, hQ, ho, b1, b2, b3, k1, k2⟩ := root_round hrel hP
      have HO := hide (i64_or ho (by omega) (by omega))
      have b4 := sq_le (a := (r : Int) + Q) (b := 536870912) (by omega) (by omega)
      have b5 : (0 : Int) ≤ ((r : Int) + Q) * ((r : Int) + Q) := Int.mul_nonneg (by omega) (by omega)
      have e2 : ((2 * Q / 2 : Nat) : Int) = (Q : Int) := by omega
      rw [e2]
      have K1 := hide k1
      have K2 := hide k2
      have ho' := HO.out
      clear hrel ho k1 k2 hP e2
      have b6 : ((r : Int) + Q) * ((r : Int) + Q) ≤ 288230376151711744 := by omega
      clear b4
      go_wp2
      all_goals
        go_round
        case rel =>
          first
          | exact ⟨r + Q, Q, by go_num, by go_num, K1.out (by push_cast; assumption)⟩
          | exact ⟨r, Q, by go_num, by go_num, K2.out (by push_cast; assumption)⟩
        case measure => simp [intOf]; omega
    · have hP1 : P = 1 ∨ P = 0 := by omega
      have e : P = 1 := by
        obtain ⟨s, m, e1, _⟩ := hrel
        have := Nat.two_pow_pos s
        omega
      subst e
      have E := hide (root_end h0 hrel)
      clear hrel
      go_wp2
      go_ret
      exact ⟨ret_int E.out.symm, rfl⟩
def rooE (a : Sp) : Int := if vB a = true then (if a.lo < 0 then 2 else 0) else 1
def rooS (a : Sp) : Sp := if vB a = true then (if a.lo < 0 then Sp.zero else ⟨isq a.lo, isqU a.hi⟩) else Sp.zero
theorem roo_no {a : Sp} (h : vB a = false) : rooE a = 1 ∧ rooS a = Sp.zero := by simp [rooE, rooS, h]
theorem roo_neg {a : Sp} (h : vB a = true) (h' : a.lo < 0) : rooE a = 2 ∧ rooS a = Sp.zero := by simp [rooE, rooS, h, h']
theorem roo_yes {a : Sp} (h : vB a = true) (h' : 0 ≤ a.lo) : rooE a = 0 ∧ rooS a = ⟨isq a.lo, isqU a.hi⟩ := by
  have h2 : ¬ a.lo < 0 := by omega
  simp [rooE, rooS, h, h2]
theorem isq_small {n : Int} (h : 0 ≤ n) (h' : n ≤ 72057594037927936) : 0 ≤ isq n ∧ isq n ≤ 268435456 ∧ 0 ≤ isq n * isq n ∧ isq n * isq n ≤ n := by
  obtain ⟨k0, k1, k2⟩ := isq_bd h
  have : isq n < 268435457 := sq_lt k0 (by omega) (by omega)
  exact ⟨k0, by omega, Int.mul_nonneg k0 k0, k1⟩
set_option maxHeartbeats 1000000 in
theorem Root_any (a : Sp) (w : World) : Calls Tryd.prog 18 #[a.val] w (RetSE (rooS a) (rooE a) w) := by
  have X := ((Own.start w).alloc #[.int .i64 a.lo, .int .i64 a.hi] 23).alloc #[.int .i64 0, .int .i64 0] 23
  simp only [World.size_alloc] at X
  rcases Bool.eq_false_or_eq_true (vB a) with ha | ha
  rotate_left
  · have H := hide (roo_no ha)
    go_enter Tryd.func18, Tryd.ntmps18
    go_wp2_with fail
    refine (valid_any a _).mono ?_
    rintro e w1 ⟨rfl, hb⟩
    replace X := X.to hb
    clear hb
    have hr := X.r2
    rw [ha]
    clear ha
    go_wp2
    exact bodyPost_ret (v := .tuple #[Sp.zero.val, .int .i64 1]) (by simp [results, Tryd.results18, hr, Sp.zero, go_sem]) rfl (RetSE.mk (by have HX := X.1; have hz := HX.size; go_grown) H.out.2 H.out.1)
  obtain ⟨h1, h2, h3⟩ := vB_iff.1 ha
  rcases Int.lt_or_le a.lo 0 with h0 | h0
  · have H := hide (roo_neg ha h0)
    go_enter Tryd.func18, Tryd.ntmps18
    go_wp2_with fail
    refine (valid_any a _).mono ?_
    rintro e w1 ⟨rfl, hb⟩
    replace X := X.to hb
    clear hb
    have hr := X.r2
    rw [ha]
    clear ha
    go_wp2
    exact bodyPost_ret (v := .tuple #[Sp.zero.val, .int .i64 2]) (by simp [results, Tryd.results18, hr, Sp.zero, go_sem]) rfl (RetSE.mk (by have HX := X.1; have hz := HX.size; go_grown) H.out.2 H.out.1)
  have H := hide (roo_yes ha h0)
  obtain ⟨k1, k2, k3, k4⟩ := isq_small (n := a.hi) (by omega) h3
  have U1 : isq a.hi * isq a.hi < a.hi → isqU a.hi = isq a.hi + 1 := fun h => by simp [isqU, h]
  have U2 : ¬ isq a.hi * isq a.hi < a.hi → isqU a.hi = isq a.hi := fun h => by simp [isqU, h]
  replace U1 := hide U1
  replace U2 := hide U2
  by_cases hq : isq a.hi * isq a.hi < a.hi
  · have U := hide (U1.out hq)
    clear U1 U2
    go_enter Tryd.func18, Tryd.ntmps18
    go_wp2_with fail
    refine (valid_any a _).mono ?_
    rintro e w1 ⟨rfl, hb⟩
    replace X := X.to hb
    clear hb
    have hr := X.r2
    rw [ha]
    clear ha
    go_wp2_with fail
    refine (root_any a.hi _ (by omega) (by omega)).mono ?_
    rintro e w' ⟨rfl, rfl⟩
    go_wp2_with fail
    refine (root_any a.lo _ (by omega) (by omega)).mono ?_
    rintro e w' ⟨rfl, rfl⟩
    go_wp2
    exact bodyPost_ret (v := .tuple #[.agg #[.int .i64 (isq a.lo), .int .i64 (isq a.hi + 1)], .int .i64 0]) (by simp [results, Tryd.results18, hr, go_sem]) rfl (RetSE.mk (s' := ⟨isq a.lo, isq a.hi + 1⟩) (by have HX := X.1; have hz := HX.size; go_grown) (by rw [H.out.2, U.out]) H.out.1)
  · have U := hide (U2.out hq)
    clear U1 U2
    go_enter Tryd.func18, Tryd.ntmps18
    go_wp2_with fail
    refine (valid_any a _).mono ?_
    rintro e w1 ⟨rfl, hb⟩
    replace X := X.to hb
    clear hb
    have hr := X.r2
    rw [ha]
    clear ha
    go_wp2_with fail
    refine (root_any a.hi _ (by omega) (by omega)).mono ?_
    rintro e w' ⟨rfl, rfl⟩
    go_wp2_with fail
    refine (root_any a.lo _ (by omega) (by omega)).mono ?_
    rintro e w' ⟨rfl, rfl⟩
    go_wp2
    exact bodyPost_ret (v := .tuple #[.agg #[.int .i64 (isq a.lo), .int .i64 (isq a.hi)], .int .i64 0]) (by simp [results, Tryd.results18, hr, go_sem]) rfl (RetSE.mk (s' := ⟨isq a.lo, isq a.hi⟩) (by have HX := X.1; have hz := HX.size; go_grown) (by rw [H.out.2, U.out]) H.out.1)
end Go.Proofs.YtgflgnbbkhikcaaDoor
