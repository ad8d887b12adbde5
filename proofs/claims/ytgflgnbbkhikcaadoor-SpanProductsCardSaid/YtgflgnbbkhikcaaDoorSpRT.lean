/- The reference's Mul and Times of spans return what the program's do. -/
import Derived.Test.YtgflgnbbkhikcaaDoorSpRM
import Derived.Test.YtgflgnbbkhikcaaDoorSpRTm
import Derived.Test.YtgflgnbbkhikcaaDoorSpScaled2
namespace Go.Proofs.YtgflgnbbkhikcaaDoor
open Go.RowKit

theorem tim_ok2 {a : Sp} {m d : Int} (ha : vB a = true) (h0 : d ≠ 0) (hm : -9223372036854775808 ≤ m ∧ m ≤ 9223372036854775807) (hd : -9223372036854775808 ≤ d ∧ d ≤ 9223372036854775807) : (Tr.mk a.lo m d).Ok2 ∧ (Tr.mk a.hi m d).Ok2 := by
  obtain ⟨h1, h2, h3⟩ := vB_iff.1 ha
  exact ⟨⟨h0, by show _ ≤ a.lo; omega, by show a.lo ≤ _; omega, hm.1, hm.2, hd.1, hd.2⟩, ⟨h0, by show _ ≤ a.hi; omega, by show a.hi ≤ _; omega, hm.1, hm.2, hd.1, hd.2⟩⟩
theorem sm_mul {x y : Int} (hx : x.natAbs ≤ 72057594037927936) (hy : y.natAbs ≤ 9223372036854775808) : (x * y).natAbs ≤ 664613997892457936451903530140172288 := by
  rw [Int.natAbs_mul]
  exact Nat.mul_le_mul hx hy
theorem sm_of {z : Int} (h : z.natAbs ≤ 664613997892457936451903530140172288) : Sm z := by unfold Sm; omega
theorem fdv_sm {x d : Int} (h : x.natAbs ≤ 664613997892457936451903530140172288) : Sm (fdv x d) := by
  have h1 : x.natAbs / d.natAbs ≤ x.natAbs := Nat.div_le_self _ _
  unfold Sm fdv
  generalize x.natAbs / d.natAbs = Q at *
  generalize x.natAbs % d.natAbs = R at *
  split
  · omega
  · split <;> omega
theorem cdv_sm {x d : Int} (h : x.natAbs ≤ 664613997892457936451903530140172288) : Sm (cdv x d) := by
  have := fdv_sm (x := -x) (d := d) (by omega)
  unfold Sm at this ⊢
  unfold cdv
  omega
theorem mul4_le (a b : Sp) : (mul4 a b).1 ≤ (mul4 a b).2 := by
  show mn (mn (mn (a.lo * b.lo) (a.lo * b.hi)) (a.hi * b.lo)) (a.hi * b.hi) ≤ mx (mx (mx (a.lo * b.lo) (a.lo * b.hi)) (a.hi * b.lo)) (a.hi * b.hi)
  generalize a.lo * b.lo = p
  generalize a.lo * b.hi = q
  generalize a.hi * b.lo = r
  generalize a.hi * b.hi = s
  unfold mn mx
  split <;> split <;> split <;> split <;> split <;> split <;> omega
theorem tim4_le (a : Sp) (m d : Int) : (tim4 a m d).1 ≤ (tim4 a m d).2 := by
  show mn (mn (dn (a.lo * m) d) (dn (a.hi * m) d)) (up (a.hi * m) d) ≤ mx (mx (up (a.lo * m) d) (dn (a.hi * m) d)) (up (a.hi * m) d)
  generalize dn (a.lo * m) d = p
  generalize dn (a.hi * m) d = q
  generalize up (a.lo * m) d = r
  generalize up (a.hi * m) d = s
  unfold mn mx
  split <;> split <;> split <;> split <;> omega
theorem rmul_any (a b : Sp) (w : World) (ha : vB a = true) (hb : vB b = true) : Calls Tryd.prog 16 #[a.val, b.val] w (RetSE (s4S ⟨a.lo, b.lo, 1⟩ ⟨a.lo, b.hi, 1⟩ ⟨a.hi, b.lo, 1⟩ ⟨a.hi, b.hi, 1⟩) (s4E ⟨a.lo, b.lo, 1⟩ ⟨a.lo, b.hi, 1⟩ ⟨a.hi, b.lo, 1⟩ ⟨a.hi, b.hi, 1⟩) w) := by
  obtain ⟨h1, h2, h3⟩ := vB_iff.1 ha
  obtain ⟨k1, k2, k3⟩ := vB_iff.1 hb
  obtain ⟨e1, e2⟩ := mul4_res a b
  refine calls_se (rmul0 a b (M := mul4 a b) w (hide fun W => n3times a.lo b.lo W (by omega) (by omega)) (hide fun W => n3times a.lo b.hi W (by omega) (by omega)) (hide fun W => n3times a.hi b.lo W (by omega) (by omega)) (hide fun W => n3times a.hi b.hi W (by omega) (by omega)) (hide ⟨?_, ?_, ?_, ?_⟩) (hide ⟨rfl, mul4_le a b⟩)) e2.symm e1.symm
  all_goals exact sm_of (sm_mul (by omega) (by omega))
set_option maxRecDepth 100000 in
set_option maxHeartbeats 1000000 in
theorem rtim_any (a : Sp) (m d : Int) (w : World) (ha : vB a = true) (hm : -9223372036854775808 ≤ m ∧ m ≤ 9223372036854775807) (hd : -9223372036854775808 ≤ d ∧ d ≤ 9223372036854775807) : Calls Tryd.prog 15 #[a.val, .int .i64 m, .int .i64 d] w (RetSE (timS a m d) (timE a m d) w) := by
  by_cases h0 : d = 0
  · have H := hide (tim_zero (m := m) ha h0)
    subst h0
    have X := ((Own.start w).alloc #[.int .i64 a.lo, .int .i64 a.hi] 23).alloc #[.int .i64 0, .int .i64 0] 23
    simp only [World.size_alloc] at X
    have hr := X.r2
    clear hm hd ha
    go_enter Tryd.func15, Tryd.ntmps15
    go_wp2
    exact bodyPost_ret (v := .tuple #[Sp.zero.val, .int .i64 16]) (by simp [results, Tryd.results15, hr, Sp.zero, go_sem]) rfl (RetSE.mk (by have HX := X.1; have hz := HX.size; go_grown) H.out.2 H.out.1)
  · obtain ⟨h1, h2, h3⟩ := vB_iff.1 ha
    obtain ⟨e1, e2⟩ := tim4_res a m h0
    obtain ⟨t1, t2⟩ := tim_yes (m := m) ha h0
    have q1 : (a.lo * m).natAbs ≤ 664613997892457936451903530140172288 := sm_mul (by omega) (by omega)
    have q2 : (a.hi * m).natAbs ≤ 664613997892457936451903530140172288 := sm_mul (by omega) (by omega)
    refine calls_se (rtim0 a (M := tim4 a m d) w (hide fun _ _ _ _ _ _ hx hy W => n3down hx hy h0 W) (hide fun _ _ _ _ _ _ hx hy W => n3up hx hy h0 W) (hide fun _ _ _ _ _ _ hx hy W => n3down hx hy h0 W) (hide fun _ _ _ _ _ _ hx hy W => n3up hx hy h0 W)
      (hide fun W => n3ofint d W hd) (hide fun W => n3times a.lo m W (by omega) hm) (hide fun W => n3times a.hi m W (by omega) hm) h0
      (hide ⟨fdv_sm q1, cdv_sm q1, fdv_sm q2, cdv_sm q2⟩) (hide ⟨?_, tim4_le a m d⟩)) (e2.symm.trans t2.symm) (e1.symm.trans t1.symm)
    rw [fdv_dn h0, fdv_dn h0, cdv_up h0, cdv_up h0]
    rfl
end Go.Proofs.YtgflgnbbkhikcaaDoor
