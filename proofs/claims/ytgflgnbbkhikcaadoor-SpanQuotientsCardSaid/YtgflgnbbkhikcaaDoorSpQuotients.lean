/- SpanQuotients: Div and Root return what the reference says: for all spans the law returns true. -/
import Derived.Test.YtgflgnbbkhikcaaDoorSpAwake
import Derived.Test.YtgflgnbbkhikcaaDoorSpRDiv
namespace Go.Proofs.YtgflgnbbkhikcaaDoor
open Go.RowKit

set_option maxRecDepth 100000 in
set_option maxHeartbeats 4000000 in
theorem quotients_law (a b : Sp) (w : World) : Calls Tryd.prog 4 #[a.val, b.val] w fun e w' => e = .returned (.bool true) ∧ Below w.heap.size w w' := by
  have X := (((Own.start w).alloc #[.int .i64 a.lo, .int .i64 a.hi] 23).alloc #[.int .i64 b.lo, .int .i64 b.hi] 23)
  simp only [World.size_alloc] at X

  rcases Bool.eq_false_or_eq_true (vB a) with ha | ha
  rotate_left
  · have A1 := fun w => calls_se (div_any a b w) (t := ⟨0, 0⟩) (er' := 1) (op2_no1 ha 0 _).2 (op2_no1 ha _ Sp.zero).1
    have A2 := fun w => calls_se (Root_any a w) (t := ⟨0, 0⟩) (er' := 1) (roo_no ha).2 (roo_no ha).1
    have A4 := rvalid_any a
    rw [ha] at A4
    clear ha
    go_enter Tryd.func4, Tryd.ntmps4
    have hr := X.r2
    go_wp2_with fail
    refine (awake_any _).mono ?_
    rintro e w0 ⟨rfl, hb⟩
    replace X := X.to hb
    clear hb hr
    have hr := X.r2
    go_wp2_with fail
    refine (A1 _).mono ?_
    rintro e w1 ⟨rfl, hb⟩
    replace X := (X.to hb).alloc #[.int .i64 0, .int .i64 0] 23
    clear hb hr
    have hr := X.r3
    go_wp2_with fail
    refine (A2 _).mono ?_
    rintro e w2 ⟨rfl, hb⟩
    replace X := (X.to hb).alloc #[.int .i64 0, .int .i64 0] 23
    clear hb hr
    have hr := X.r4
    go_wp2_with fail
    refine (A4 _).mono ?_
    rintro e w3 ⟨rfl, hb⟩
    replace X := X.to hb
    clear hb hr
    have hr := X.r4
    go_wp2
    go_ret
    exact ⟨rfl, by have HX := X.1; have hz := HX.size; go_grown⟩
  have A2 := Root_any a
  have A4 := rvalid_any a
  have A5 := fun w => rRoot_any a w ha
  have A6 := rvalid_any b
  rw [ha] at A4
  rcases Bool.eq_false_or_eq_true (vB b) with hb' | hb'
  rotate_left
  · have A1 := fun w => calls_se (div_any a b w) (t := ⟨0, 0⟩) (er' := 1) (op2_no2 hb' 0 _).2 (op2_no2 hb' _ Sp.zero).1
    rw [hb'] at A6
    clear ha hb'
    generalize rooS a = s1 at *
    generalize rooE a = e1 at *
    go_enter Tryd.func4, Tryd.ntmps4
    have hr := X.r2
    go_wp2_with fail
    refine (awake_any _).mono ?_
    rintro e w0 ⟨rfl, hb⟩
    replace X := X.to hb
    clear hb hr
    have hr := X.r2
    go_wp2_with fail
    refine (A1 _).mono ?_
    rintro e w1 ⟨rfl, hb⟩
    replace X := (X.to hb).alloc #[.int .i64 0, .int .i64 0] 23
    clear hb hr
    have hr := X.r3
    go_wp2_with fail
    refine (A2 _).mono ?_
    rintro e w2 ⟨rfl, hb⟩
    replace X := (X.to hb).alloc #[.int .i64 s1.lo, .int .i64 s1.hi] 23
    clear hb hr
    have hr := X.r4
    go_wp2_with fail
    refine (A4 _).mono ?_
    rintro e w3 ⟨rfl, hb⟩
    replace X := X.to hb
    clear hb hr
    have hr := X.r4
    go_wp2_with fail
    refine (A5 _).mono ?_
    rintro e w4 ⟨rfl, hb⟩
    replace X := (X.to hb).alloc #[.int .i64 s1.lo, .int .i64 s1.hi] 23
    clear hb hr
    have hr := X.r5
    go_wp2_with fail
    refine (A6 _).mono ?_
    rintro e w5 ⟨rfl, hb⟩
    replace X := X.to hb
    clear hb hr
    have hr := X.r5
    go_wp2
    go_ret
    exact ⟨rfl, by have HX := X.1; have hz := HX.size; go_grown⟩
  have A1 := fun w => calls_se (div_any a b w) (op2_yes ha hb' 0 _).2 (op2_yes ha hb' _ Sp.zero).1
  have A7 := fun w => rdiv_any a b w ha hb'
  rw [hb'] at A6
  clear ha hb'
  generalize rooS a = s1 at *
  generalize rooE a = e1 at *
  generalize divV a b = s2 at *
  generalize divF a b = e2 at *
  go_enter Tryd.func4, Tryd.ntmps4
  have hr := X.r2
  go_wp2_with fail
  refine (awake_any _).mono ?_
  rintro e w0 ⟨rfl, hb⟩
  replace X := X.to hb
  clear hb hr
  have hr := X.r2
  go_wp2_with fail
  refine (A1 _).mono ?_
  rintro e w1 ⟨rfl, hb⟩
  replace X := (X.to hb).alloc #[.int .i64 s2.lo, .int .i64 s2.hi] 23
  clear hb hr
  have hr := X.r3
  go_wp2_with fail
  refine (A2 _).mono ?_
  rintro e w2 ⟨rfl, hb⟩
  replace X := (X.to hb).alloc #[.int .i64 s1.lo, .int .i64 s1.hi] 23
  clear hb hr
  have hr := X.r4
  go_wp2_with fail
  refine (A4 _).mono ?_
  rintro e w3 ⟨rfl, hb⟩
  replace X := X.to hb
  clear hb hr
  have hr := X.r4
  go_wp2_with fail
  refine (A5 _).mono ?_
  rintro e w4 ⟨rfl, hb⟩
  replace X := (X.to hb).alloc #[.int .i64 s1.lo, .int .i64 s1.hi] 23
  clear hb hr
  have hr := X.r5
  go_wp2_with fail
  refine (A6 _).mono ?_
  rintro e w5 ⟨rfl, hb⟩
  replace X := X.to hb
  clear hb hr
  have hr := X.r5
  go_wp2_with fail
  refine (A7 _).mono ?_
  rintro e w6 ⟨rfl, hb⟩
  replace X := (X.to hb).alloc #[.int .i64 s2.lo, .int .i64 s2.hi] 23
  clear hb hr
  have hr := X.r6
  go_wp2
  go_ret
  exact ⟨rfl, by have HX := X.1; have hz := HX.size; go_grown⟩
end Go.Proofs.YtgflgnbbkhikcaaDoor
