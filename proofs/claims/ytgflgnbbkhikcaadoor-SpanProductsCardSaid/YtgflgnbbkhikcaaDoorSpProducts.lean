/- SpanProducts: Mul and Times return what the reference says: for all spans and numbers the law returns true (printed by gen_prm.py). -/
import Derived.Test.YtgflgnbbkhikcaaDoorSpAwake
import Derived.Test.YtgflgnbbkhikcaaDoorSpTim2
import Derived.Test.YtgflgnbbkhikcaaDoorSpRT
namespace Go.Proofs.YtgflgnbbkhikcaaDoor
open Go.RowKit

set_option maxRecDepth 100000 in
set_option maxHeartbeats 4000000 in
theorem products_law (a b : Sp) (m d : Int) (w : World) (hm : -9223372036854775808 ≤ m ∧ m ≤ 9223372036854775807) (hd : -9223372036854775808 ≤ d ∧ d ≤ 9223372036854775807) : Calls Tryd.prog 3 #[a.val, b.val, .int .i64 m, .int .i64 d] w fun e w' => e = .returned (.bool true) ∧ Below w.heap.size w w' := by
  have X := (((Own.start w).alloc #[.int .i64 a.lo, .int .i64 a.hi] 23).alloc #[.int .i64 b.lo, .int .i64 b.hi] 23)
  simp only [World.size_alloc] at X
  have A2 := fun w => tim2_any a m d w (fun ha h0 => tim_ok2 ha h0 hm hd)
  rcases Bool.eq_false_or_eq_true (vB a) with ha | ha
  rotate_left
  · have A1 := fun w => calls_se (mul_any a b w) (t := ⟨0, 0⟩) (er' := 1) (op2_no1 ha 0 _).2 (op2_no1 ha _ Sp.zero).1
    replace A2 := fun w => calls_se (A2 w) (t := ⟨0, 0⟩) (er' := 1) (tim_no ha).2 (tim_no ha).1
    have A4 := rvalid_any a
    rw [ha] at A4
    clear ha hm hd
    go_enter Tryd.func3, Tryd.ntmps3
    have hr := X.r2
    go_wp2_with fail
    refine (awake_any _).mono ?_
    rintro e w0 ⟨rfl, hb⟩
    replace X := X.to hb
    clear hb hr
    have hr := X.r2
    go_wp2_with fail
    refine (A1 _).mono ?_
    rintro e w1 ⟨rfl, hb⟩
    replace X := (X.to hb).alloc #[.int .i64 0, .int .i64 0] 23
    clear hb hr
    have hr := X.r3
    go_wp2_with fail
    refine (A2 _).mono ?_
    rintro e w2 ⟨rfl, hb⟩
    replace X := (X.to hb).alloc #[.int .i64 0, .int .i64 0] 23
    clear hb hr
    have hr := X.r4
    go_wp2_with fail
    refine (A4 _).mono ?_
    rintro e w3 ⟨rfl, hb⟩
    replace X := X.to hb
    clear hb hr
    have hr := X.r4
    go_wp2
    go_ret
    exact ⟨rfl, by have HX := X.1; have hz := HX.size; go_grown⟩
  have A4 := rvalid_any a
  have A5 := fun w => rtim_any a m d w ha hm hd
  have A6 := rvalid_any b
  rw [ha] at A4
  rcases Bool.eq_false_or_eq_true (vB b) with hb' | hb'
  rotate_left
  · have A1 := fun w => calls_se (mul_any a b w) (t := ⟨0, 0⟩) (er' := 1) (op2_no2 hb' 0 _).2 (op2_no2 hb' _ Sp.zero).1
    rw [hb'] at A6
    clear ha hb' hm hd
    generalize timS a m d = s1 at *
    generalize timE a m d = e1 at *
    go_enter Tryd.func3, Tryd.ntmps3
    have hr := X.r2
    go_wp2_with fail
    refine (awake_any _).mono ?_
    rintro e w0 ⟨rfl, hb⟩
    replace X := X.to hb
    clear hb hr
    have hr := X.r2
    go_wp2_with fail
    refine (A1 _).mono ?_
    rintro e w1 ⟨rfl, hb⟩
    replace X := (X.to hb).alloc #[.int .i64 0, .int .i64 0] 23
    clear hb hr
    have hr := X.r3
    go_wp2_with fail
    refine (A2 _).mono ?_
    rintro e w2 ⟨rfl, hb⟩
    replace X := (X.to hb).alloc #[.int .i64 s1.lo, .int .i64 s1.hi] 23
    clear hb hr
    have hr := X.r4
    go_wp2_with fail
    refine (A4 _).mono ?_
    rintro e w3 ⟨rfl, hb⟩
    replace X := X.to hb
    clear hb hr
    have hr := X.r4
    go_wp2_with fail
    refine (A5 _).mono ?_
    rintro e w4 ⟨rfl, hb⟩
    replace X := (X.to hb).alloc #[.int .i64 s1.lo, .int .i64 s1.hi] 23
    clear hb hr
    have hr := X.r5
    go_wp2_with fail
    refine (A6 _).mono ?_
    rintro e w5 ⟨rfl, hb⟩
    replace X := X.to hb
    clear hb hr
    have hr := X.r5
    go_wp2
    go_ret
    exact ⟨rfl, by have HX := X.1; have hz := HX.size; go_grown⟩
  have A1 := fun w => calls_se (mul_any a b w) (op2_yes ha hb' 0 _).2 (op2_yes ha hb' _ Sp.zero).1
  have A7 := fun w => rmul_any a b w ha hb'
  rw [hb'] at A6
  clear ha hb' hm hd
  generalize timS a m d = s1 at *
  generalize timE a m d = e1 at *
  generalize s4S ⟨a.lo, b.lo, 1⟩ ⟨a.lo, b.hi, 1⟩ ⟨a.hi, b.lo, 1⟩ ⟨a.hi, b.hi, 1⟩ = s2 at *
  generalize s4E ⟨a.lo, b.lo, 1⟩ ⟨a.lo, b.hi, 1⟩ ⟨a.hi, b.lo, 1⟩ ⟨a.hi, b.hi, 1⟩ = e2 at *
  go_enter Tryd.func3, Tryd.ntmps3
  have hr := X.r2
  go_wp2_with fail
  refine (awake_any _).mono ?_
  rintro e w0 ⟨rfl, hb⟩
  replace X := X.to hb
  clear hb hr
  have hr := X.r2
  go_wp2_with fail
  refine (A1 _).mono ?_
  rintro e w1 ⟨rfl, hb⟩
  replace X := (X.to hb).alloc #[.int .i64 s2.lo, .int .i64 s2.hi] 23
  clear hb hr
  have hr := X.r3
  go_wp2_with fail
  refine (A2 _).mono ?_
  rintro e w2 ⟨rfl, hb⟩
  replace X := (X.to hb).alloc #[.int .i64 s1.lo, .int .i64 s1.hi] 23
  clear hb hr
  have hr := X.r4
  go_wp2_with fail
  refine (A4 _).mono ?_
  rintro e w3 ⟨rfl, hb⟩
  replace X := X.to hb
  clear hb hr
  have hr := X.r4
  go_wp2_with fail
  refine (A5 _).mono ?_
  rintro e w4 ⟨rfl, hb⟩
  replace X := (X.to hb).alloc #[.int .i64 s1.lo, .int .i64 s1.hi] 23
  clear hb hr
  have hr := X.r5
  go_wp2_with fail
  refine (A6 _).mono ?_
  rintro e w5 ⟨rfl, hb⟩
  replace X := X.to hb
  clear hb hr
  have hr := X.r5
  go_wp2_with fail
  refine (A7 _).mono ?_
  rintro e w6 ⟨rfl, hb⟩
  replace X := (X.to hb).alloc #[.int .i64 s2.lo, .int .i64 s2.hi] 23
  clear hb hr
  have hr := X.r6
  go_wp2
  go_ret
  exact ⟨rfl, by have HX := X.1; have hz := HX.size; go_grown⟩
end Go.Proofs.YtgflgnbbkhikcaaDoor
