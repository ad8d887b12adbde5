/- RatioOrders: Cmp, Floor, and Ceil return what the reference says: for all fractions the law returns true. -/
import Derived.Test.YtbmckddjdkjplaaDoorRtAwake
import Derived.Test.YtbmckddjdkjplaaDoorRtRef2
namespace Go.Proofs.YtbmckddjdkjplaaDoor
open Go Go.RowKit

theorem calls_ie {f : FuncId} {args : Array Value} {w : World} {n er n' er' : Int} (h : Calls Tryd.prog f args w (RetIE n er w)) (h1 : n = n') (h2 : er = er') : Calls Tryd.prog f args w (RetIE n' er' w) := by rw [← h1, ← h2]; exact h
set_option maxRecDepth 100000 in
set_option maxHeartbeats 4000000 in
theorem orders_law (a b : Fr) (w : World) (ht : PowTab w) : Calls Tryd.prog 6 #[a.val, b.val] w (RetB (.bool true) w) := by
  have X := ((Own.start w).alloc #[.int .i64 a.num, .int .i64 a.den] 24).alloc #[.int .i64 b.num, .int .i64 b.den] 24
  simp only [World.size_alloc] at X
  have HT := hide (ht.below (X.1))
  clear ht
  rcases Bool.eq_false_or_eq_true (vF a) with ha | ha
  rotate_left
  · have A1 := fun W => calls_ie (cmp_any a b W) (n' := 0) (er' := 1) (by simp [cmpV, ha]) (by simp [cmpV, ha])
    have A2 := fun W => calls_ie (floor_any a W) (n' := 0) (er' := 1) (ifV_no ha _ _) (ifV_no ha _ _)
    have A3 := fun W => calls_ie (ceil_any a W) (n' := 0) (er' := 1) (ifV_no ha _ _) (ifV_no ha _ _)
    have A4 := refv_any a
    rw [ha] at A4
    clear ha
    go_enter Tryd.func6, Tryd.ntmps6
    have hr := X.r2
    go_wp2_with fail
    refine (awake_any _ HT.out).mono ?_
    rintro e w1 ⟨rfl, hb⟩
    replace X := X.to hb
    clear hb hr
    have hr := X.r2
    go_wp2_with fail
    refine (A1 _).mono ?_
    rintro e w2 ⟨rfl, hb⟩
    replace X := X.to hb
    clear hb hr
    have hr := X.r2
    go_wp2_with fail
    refine (A2 _).mono ?_
    rintro e w3 ⟨rfl, hb⟩
    replace X := X.to hb
    clear hb hr
    have hr := X.r2
    go_wp2_with fail
    refine (A3 _).mono ?_
    rintro e w4 ⟨rfl, hb⟩
    replace X := X.to hb
    clear hb hr
    have hr := X.r2
    go_wp2_with fail
    refine (A4 _).mono ?_
    rintro e w5 ⟨rfl, hb⟩
    replace X := X.to hb
    clear hb hr
    have hr := X.r2
    go_wp2
    go_ret
    exact ⟨rfl, by have HX := X.1; have hz := HX.size; go_grown⟩
  rcases Bool.eq_false_or_eq_true (vF b) with hb' | hb'
  rotate_left
  · have A1 := fun W => calls_ie (cmp_any a b W) (n' := 0) (er' := 1) (by simp [cmpV, hb']) (by simp [cmpV, hb'])
    have A2 := fun W => calls_ie (floor_any a W) (n' := flF a) (er' := 0) (ifV_yes ha _ _) (ifV_yes ha _ _)
    have A3 := fun W => calls_ie (ceil_any a W) (n' := ceF a) (er' := 0) (ifV_yes ha _ _) (ifV_yes ha _ _)
    have A4 := refv_any a
    have A5 := fun W => rfloor_any a W ha
    have A6 := fun W => rceil_any a W ha
    have A7 := refv_any b
    rw [ha] at A4
    rw [hb'] at A7
    clear ha hb'
    generalize flF a = f at *
    generalize ceF a = c at *
    go_enter Tryd.func6, Tryd.ntmps6
    have hr := X.r2
    go_wp2_with fail
    refine (awake_any _ HT.out).mono ?_
    rintro e w1 ⟨rfl, hb⟩
    replace X := X.to hb
    clear hb hr
    have hr := X.r2
    go_wp2_with fail
    refine (A1 _).mono ?_
    rintro e w2 ⟨rfl, hb⟩
    replace X := X.to hb
    clear hb hr
    have hr := X.r2
    go_wp2_with fail
    refine (A2 _).mono ?_
    rintro e w3 ⟨rfl, hb⟩
    replace X := X.to hb
    clear hb hr
    have hr := X.r2
    go_wp2_with fail
    refine (A3 _).mono ?_
    rintro e w4 ⟨rfl, hb⟩
    replace X := X.to hb
    clear hb hr
    have hr := X.r2
    go_wp2_with fail
    refine (A4 _).mono ?_
    rintro e w5 ⟨rfl, hb⟩
    replace X := X.to hb
    clear hb hr
    have hr := X.r2
    go_wp2_with fail
    refine (A5 _).mono ?_
    rintro e w6 ⟨rfl, hb⟩
    replace X := X.to hb
    clear hb hr
    have hr := X.r2
    go_wp2_with fail
    refine (A6 _).mono ?_
    rintro e w7 ⟨rfl, hb⟩
    replace X := X.to hb
    clear hb hr
    have hr := X.r2
    go_wp2_with fail
    refine (A7 _).mono ?_
    rintro e w8 ⟨rfl, hb⟩
    replace X := X.to hb
    clear hb hr
    have hr := X.r2
    go_wp2
    go_ret
    exact ⟨rfl, by have HX := X.1; have hz := HX.size; go_grown⟩
  · have A1 := fun W => calls_ie (cmp_any a b W) (n' := cmpF a b) (er' := 0) (by simp [cmpV, ha, hb']) (by simp [cmpV, ha, hb'])
    have A2 := fun W => calls_ie (floor_any a W) (n' := flF a) (er' := 0) (ifV_yes ha _ _) (ifV_yes ha _ _)
    have A3 := fun W => calls_ie (ceil_any a W) (n' := ceF a) (er' := 0) (ifV_yes ha _ _) (ifV_yes ha _ _)
    have A4 := refv_any a
    have A5 := fun W => rfloor_any a W ha
    have A6 := fun W => rceil_any a W ha
    have A7 := refv_any b
    have A8 := fun W => rcmp_any a b W ha hb'
    rw [ha] at A4
    rw [hb'] at A7
    clear ha hb'
    generalize flF a = f at *
    generalize ceF a = c at *
    generalize cmpF a b = k at *
    go_enter Tryd.func6, Tryd.ntmps6
    have hr := X.r2
    go_wp2_with fail
    refine (awake_any _ HT.out).mono ?_
    rintro e w1 ⟨rfl, hb⟩
    replace X := X.to hb
    clear hb hr
    have hr := X.r2
    go_wp2_with fail
    refine (A1 _).mono ?_
    rintro e w2 ⟨rfl, hb⟩
    replace X := X.to hb
    clear hb hr
    have hr := X.r2
    go_wp2_with fail
    refine (A2 _).mono ?_
    rintro e w3 ⟨rfl, hb⟩
    replace X := X.to hb
    clear hb hr
    have hr := X.r2
    go_wp2_with fail
    refine (A3 _).mono ?_
    rintro e w4 ⟨rfl, hb⟩
    replace X := X.to hb
    clear hb hr
    have hr := X.r2
    go_wp2_with fail
    refine (A4 _).mono ?_
    rintro e w5 ⟨rfl, hb⟩
    replace X := X.to hb
    clear hb hr
    have hr := X.r2
    go_wp2_with fail
    refine (A5 _).mono ?_
    rintro e w6 ⟨rfl, hb⟩
    replace X := X.to hb
    clear hb hr
    have hr := X.r2
    go_wp2_with fail
    refine (A6 _).mono ?_
    rintro e w7 ⟨rfl, hb⟩
    replace X := X.to hb
    clear hb hr
    have hr := X.r2
    go_wp2_with fail
    refine (A7 _).mono ?_
    rintro e w8 ⟨rfl, hb⟩
    replace X := X.to hb
    clear hb hr
    have hr := X.r2
    go_wp2_with fail
    refine (A8 _).mono ?_
    rintro e w9 ⟨rfl, hb⟩
    replace X := X.to hb
    clear hb hr
    have hr := X.r2
    go_wp2
    go_ret
    exact ⟨rfl, by have HX := X.1; have hz := HX.size; go_grown⟩
end Go.Proofs.YtbmckddjdkjplaaDoor
