/- SpanPoints: the result for numbers is in the result: for all spans and numbers the law returns true. -/
import Derived.Test.YtgflgnbbkhikcaaDoorSpAwake
import Derived.Test.YtgflgnbbkhikcaaDoorSpPointsP
import Derived.Test.YtgflgnbbkhikcaaDoorOwn3
namespace Go.Proofs.YtgflgnbbkhikcaaDoor
open Go.RowKit

def pk (a : Sp) (i : Int) : Int := a.lo + i % (a.hi - a.lo + 1)
theorem pk_in {a : Sp} (h : a.lo ≤ a.hi) (i : Int) : a.lo ≤ pk a i ∧ pk a i ≤ a.hi := by
  have h1 := Int.emod_nonneg i (show a.hi - a.lo + 1 ≠ 0 by omega)
  have h2 := Int.emod_lt_of_pos i (show 0 < a.hi - a.lo + 1 by omega)
  unfold pk; omega
set_option maxHeartbeats 1000000 in
theorem pick_any (a : Sp) (i : Int) (w : World) (h : a.lo ≤ a.hi) (h1 : -268435456 ≤ a.lo) (h2 : a.hi ≤ 268435456) (i0 : 0 ≤ i) (i1 : i ≤ 4294967295) :
    Calls Tryd.prog 21 #[a.val, .int .u32 i] w fun e w' => e = .returned (.int .i64 (pk a i)) ∧ Below w.heap.size w w' := by
  have E : Hid (pk a i = a.lo + i % (a.hi - a.lo + 1)) := hide rfl
  have B := hide (pk_in h i)
  have g1 : (0 : Int) < a.hi - a.lo + 1 := by omega
  have g2 : a.hi - a.lo + 1 ≠ 0 := by omega
  go_enter Tryd.func21, Tryd.ntmps21
  go_wp2
  go_region
  go_wp2
  go_ret
  refine ⟨ret_int ?_, by go_grown⟩
  rw [← E.out]
  exact IntWalk.wrap64_in _ (by have := B.out; omega)
theorem add_small {a b : Sp} {B : Int} (hB : B ≤ 36028797018963968) (h1 : -B ≤ a.lo) (h2 : a.lo ≤ a.hi) (h3 : a.hi ≤ B) (k1 : -B ≤ b.lo) (k2 : b.lo ≤ b.hi) (k3 : b.hi ≤ B) :
    (resE (a.lo + b.lo) (a.hi + b.hi) = 0 ∧ resS (a.lo + b.lo) (a.hi + b.hi) = ⟨a.lo + b.lo, a.hi + b.hi⟩) ∧ (resE (a.lo - b.hi) (a.hi - b.lo) = 0 ∧ resS (a.lo - b.hi) (a.hi - b.lo) = ⟨a.lo - b.hi, a.hi - b.lo⟩) := by
  have e1 : fitB (a.lo + b.lo) = true := fitB_iff.2 (by omega)
  have e2 : fitB (a.hi + b.hi) = true := fitB_iff.2 (by omega)
  have e3 : fitB (a.lo - b.hi) = true := fitB_iff.2 (by omega)
  have e4 : fitB (a.hi - b.lo) = true := fitB_iff.2 (by omega)
  simp [resE, resS, e1, e2, e3, e4]
theorem m_small {a b : Sp} (h1 : -268435456 ≤ a.lo) (h2 : a.lo ≤ a.hi) (h3 : a.hi ≤ 268435456) (k1 : -268435456 ≤ b.lo) (k2 : b.lo ≤ b.hi) (k3 : b.hi ≤ 268435456) : mE a b = 0 ∧ mS a b = ⟨m4 a b, M4 a b⟩ := by
  have q := fun (x y : Int) (a1 : -268435456 ≤ x) (a2 : x ≤ 268435456) (a3 : -268435456 ≤ y) (a4 : y ≤ 268435456) => mul_bdB (A := 268435456) (B := 268435456) (by omega) a1 a2 a3 a4
  have q0 := q a.lo b.lo (by omega) (by omega) (by omega) (by omega)
  have q1 := q a.lo b.hi (by omega) (by omega) (by omega) (by omega)
  have q2 := q a.hi b.lo (by omega) (by omega) (by omega) (by omega)
  have q3 := q a.hi b.hi (by omega) (by omega) (by omega) (by omega)
  rcases m_cases a b with ⟨e0, e1, _⟩ | ⟨e0, _⟩
  · exact ⟨e0, e1⟩
  · exfalso
    rw [(m_g a b).1] at e0
    unfold gE at e0
    rw [if_pos ⟨i64B_iff.2 (by omega), i64B_iff.2 (by omega), i64B_iff.2 (by omega), i64B_iff.2 (by omega)⟩] at e0
    unfold resE at e0
    rw [if_pos ⟨fitB_iff.2 (by unfold p4; omega), fitB_iff.2 (by unfold P4; omega)⟩] at e0
    omega
theorem tim_bd {a : Sp} {k d : Int} (h1 : -268435456 ≤ a.lo) (h2 : a.lo ≤ a.hi) (h3 : a.hi ≤ 268435456) (k1 : -1048576 ≤ k) (k2 : k ≤ 1048576) (d1 : 1 ≤ d) (d2 : d ≤ 1048576) :
    (-281474976710656 ≤ a.lo * k ∧ a.lo * k ≤ 281474976710656 ∧ -281474976710656 ≤ a.hi * k ∧ a.hi * k ≤ 281474976710656) ∧ -281474976710656 ≤ timLo a k d ∧ timLo a k d ≤ timHi a k d ∧ timHi a k d ≤ 281474976710656 ∧
      -562949953421312 ≤ timLo a k d * d ∧ timLo a k d * d ≤ 562949953421312 ∧ -562949953421312 ≤ timHi a k d * d ∧ timHi a k d * d ≤ 562949953421312 := by
  have q0 := mul_bdB (x := a.lo) (y := k) (A := 268435456) (B := 1048576) (by omega) (by omega) (by omega) (by omega) (by omega)
  have q1 := mul_bdB (x := a.hi) (y := k) (A := 268435456) (B := 1048576) (by omega) (by omega) (by omega) (by omega) (by omega)
  have D1 := dn_bdB (n := a.lo * k) (d := d) (B := 281474976710656) (by omega) (by omega) (by omega) (by omega)
  have D2 := dn_bdB (n := a.hi * k) (d := d) (B := 281474976710656) (by omega) (by omega) (by omega) (by omega)
  have U1 := up_bdB (n := a.lo * k) (d := d) (B := 281474976710656) (by omega) (by omega) (by omega) (by omega)
  have U2 := up_bdB (n := a.hi * k) (d := d) (B := 281474976710656) (by omega) (by omega) (by omega) (by omega)
  have L := dn_le_up (n := a.lo * k) (d := d) (by omega)
  have E1 := dn_bd (n := a.lo * k) (d := d) (by omega)
  have E2 := dn_bd (n := a.hi * k) (d := d) (by omega)
  have G1 := up_bd (n := a.lo * k) (d := d) (by omega)
  have G2 := up_bd (n := a.hi * k) (d := d) (by omega)
  rw [Int.add_mul] at E1 E2
  rw [Int.sub_mul] at G1 G2
  have hl : timLo a k d = dn (a.lo * k) d ∨ timLo a k d = dn (a.hi * k) d := by unfold timLo; omega
  have hh : timHi a k d = up (a.lo * k) d ∨ timHi a k d = up (a.hi * k) d := by unfold timHi; omega
  have hle : timLo a k d ≤ timHi a k d := by unfold timLo timHi; omega
  refine ⟨by omega, ?_, hle, ?_, ?_⟩
  · rcases hl with e | e <;> rw [e] <;> omega
  · rcases hh with e | e <;> rw [e] <;> omega
  · rcases hl with e | e <;> rcases hh with e' | e' <;> rw [e, e'] <;> omega
theorem tim_small {a : Sp} {k d : Int} (h1 : -268435456 ≤ a.lo) (h2 : a.lo ≤ a.hi) (h3 : a.hi ≤ 268435456) (k1 : -1048576 ≤ k) (k2 : k ≤ 1048576) (d1 : 1 ≤ d) (d2 : d ≤ 1048576) (hv : vB a = true) :
    timE a k d = 0 ∧ timS a k d = ⟨timLo a k d, timHi a k d⟩ := by
  obtain ⟨b0, b1, b2, b3, _⟩ := tim_bd h1 h2 h3 k1 k2 d1 d2
  have q := fun (x : Int) (c1 : -281474976710656 ≤ x * k) (c2 : x * k ≤ 281474976710656) => (show (Tr.mk x k d).er = 0 ∧ (Tr.mk x k d).lo = dn (x * k) d ∧ (Tr.mk x k d).hi = up (x * k) d from by
    have D1 := dn_bdB (n := x * k) (d := d) (B := 281474976710656) (by omega) (by omega) (by omega) (by omega)
    have U1 := up_bdB (n := x * k) (d := d) (B := 281474976710656) (by omega) (by omega) (by omega) (by omega)
    have e1 : i64B (dn (x * k) d) = true := i64B_iff.2 (by omega)
    have e2 : i64B (up (x * k) d) = true := i64B_iff.2 (by omega)
    have hd : d ≠ 0 := by omega
    simp [Tr.er, Tr.lo, Tr.hi, scE, scLo, scHi, hd, e1, e2])
  have t0 := q a.lo (by omega) (by omega)
  have t1 := q a.hi (by omega) (by omega)
  rw [(tim_yes hv (by omega)).1, (tim_yes hv (by omega)).2, (s4_yes ⟨t0.1, t0.1, t1.1, t1.1⟩).1, (s4_yes ⟨t0.1, t0.1, t1.1, t1.1⟩).2]
  unfold lo4 hi4
  rw [t0.2.1, t1.2.1, t0.2.2, t1.2.2]
  have e1 : min (min (min (dn (a.lo * k) d) (dn (a.lo * k) d)) (dn (a.hi * k) d)) (dn (a.hi * k) d) = timLo a k d := by unfold timLo; omega
  have e2 : max (max (max (up (a.lo * k) d) (up (a.lo * k) d)) (up (a.hi * k) d)) (up (a.hi * k) d) = timHi a k d := by unfold timHi; omega
  rw [e1, e2]
  have f1 : fitB (timLo a k d) = true := fitB_iff.2 (by omega)
  have f2 : fitB (timHi a k d) = true := fitB_iff.2 (by omega)
  simp [resE, resS, f1, f2]
theorem div_small {a b : Sp} (ha : vB a = true) (hb : vB b = true) (h : hasB b 0 = false) (h1 : -268435456 ≤ a.lo) (h2 : a.lo ≤ a.hi) (h3 : a.hi ≤ 268435456) (n1 : b.lo ≠ 0) (n2 : b.hi ≠ 0) : divF a b = 0 ∧ divV a b = ⟨qLo a b, qHi a b⟩ := by
  have B := q_bd (a := a) (b := b) (B := 268435456) (by omega) h1 h2 h3 n1 n2
  have f1 : fitB (qLo a b) = true := fitB_iff.2 (by omega)
  have f2 : fitB (qHi a b) = true := fitB_iff.2 (by omega)
  rw [(div_val ha hb h).1, (div_val ha hb h).2]
  show resE (qLo a b) (qHi a b) = 0 ∧ resS (qLo a b) (qHi a b) = _
  simp [resE, resS, f1, f2]
theorem hasB_iff {a : Sp} {n : Int} : hasB a n = true ↔ a.lo ≤ n ∧ n ≤ a.hi := by simp [hasB]


end Go.Proofs.YtgflgnbbkhikcaaDoor
