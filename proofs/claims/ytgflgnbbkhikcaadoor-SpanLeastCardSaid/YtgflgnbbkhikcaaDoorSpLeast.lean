/- SpanLeast: for all spans the law returns true. -/
import Derived.Test.YtgflgnbbkhikcaaDoorSpLeastzero
import Derived.Test.YtgflgnbbkhikcaaDoorSpLeastpos
import Derived.Test.YtgflgnbbkhikcaaDoorSpLeastneg
namespace Go.Proofs.YtgflgnbbkhikcaaDoor
open Go.RowKit


set_option maxRecDepth 100000 in
set_option maxHeartbeats 16000000 in
theorem least_law (a b : Sp) (w : World) :
    Calls Tryd.prog 6 #[a.val, b.val] w fun e w' => e = .returned (.bool true) ∧ Below w.heap.size w w' := by
  have X := ((Own.start w).alloc #[.int .i64 a.lo, .int .i64 a.hi] 23).alloc #[.int .i64 b.lo, .int .i64 b.hi] 23
  simp only [World.size_alloc] at X
  rcases Int.lt_or_le a.hi a.lo with g0 | g0
  · skip
    go_enter Tryd.func6, Tryd.ntmps6
    have hr := X.r2
    go_wp2_with fail
    refine (awake_any _).mono ?_
    rintro e w0 ⟨rfl, hb⟩
    replace X := X.to hb
    clear hb hr
    have hr := X.r2
    go_wp2
    go_ret
    exact ⟨rfl, by have HX := X.1; have hz := HX.size; go_grown⟩
  rcases Int.lt_or_le b.hi b.lo with g1 | g1
  · skip
    go_enter Tryd.func6, Tryd.ntmps6
    have hr := X.r2
    go_wp2_with fail
    refine (awake_any _).mono ?_
    rintro e w0 ⟨rfl, hb⟩
    replace X := X.to hb
    clear hb hr
    have hr := X.r2
    go_wp2
    go_ret
    exact ⟨rfl, by have HX := X.1; have hz := HX.size; go_grown⟩
  rcases Int.lt_or_le a.lo (-268435456) with g2 | g2
  · skip
    go_enter Tryd.func6, Tryd.ntmps6
    have hr := X.r2
    go_wp2_with fail
    refine (awake_any _).mono ?_
    rintro e w0 ⟨rfl, hb⟩
    replace X := X.to hb
    clear hb hr
    have hr := X.r2
    go_wp2
    go_ret
    exact ⟨rfl, by have HX := X.1; have hz := HX.size; go_grown⟩
  rcases Int.lt_or_le 268435456 a.hi with g3 | g3
  · skip
    go_enter Tryd.func6, Tryd.ntmps6
    have hr := X.r2
    go_wp2_with fail
    refine (awake_any _).mono ?_
    rintro e w0 ⟨rfl, hb⟩
    replace X := X.to hb
    clear hb hr
    have hr := X.r2
    go_wp2
    go_ret
    exact ⟨rfl, by have HX := X.1; have hz := HX.size; go_grown⟩
  rcases Int.lt_or_le b.lo (-268435456) with g4 | g4
  · skip
    go_enter Tryd.func6, Tryd.ntmps6
    have hr := X.r2
    go_wp2_with fail
    refine (awake_any _).mono ?_
    rintro e w0 ⟨rfl, hb⟩
    replace X := X.to hb
    clear hb hr
    have hr := X.r2
    go_wp2
    go_ret
    exact ⟨rfl, by have HX := X.1; have hz := HX.size; go_grown⟩
  rcases Int.lt_or_le 268435456 b.hi with g5 | g5
  · skip
    go_enter Tryd.func6, Tryd.ntmps6
    have hr := X.r2
    go_wp2_with fail
    refine (awake_any _).mono ?_
    rintro e w0 ⟨rfl, hb⟩
    replace X := X.to hb
    clear hb hr
    have hr := X.r2
    go_wp2
    go_ret
    exact ⟨rfl, by have HX := X.1; have hz := HX.size; go_grown⟩
  rcases Bool.eq_false_or_eq_true (hasB b 0) with z | z
  · exact least_zero a b w g0 g1 g2 g3 g4 g5 z
  have z1 : 0 < b.lo ∨ b.hi < 0 := by
    have : ¬ (b.lo ≤ 0 ∧ 0 ≤ b.hi) := fun h => by rw [hasB_iff.2 h] at z; cases z
    omega
  rcases z1 with z | z
  · exact least_pos a b w g0 g1 g2 g3 g4 g5 z
  · exact least_neg a b w g0 g1 g2 g3 g4 g5 z
end Go.Proofs.YtgflgnbbkhikcaaDoor
