/- SpanPoints: for all spans and numbers the law returns true. -/
import Derived.Test.YtgflgnbbkhikcaaDoorSpPoints0
import Derived.Test.YtgflgnbbkhikcaaDoorSpPoints1
import Derived.Test.YtgflgnbbkhikcaaDoorSpPoints2
import Derived.Test.YtgflgnbbkhikcaaDoorSpPoints3
import Derived.Test.YtgflgnbbkhikcaaDoorSpPoints4
import Derived.Test.YtgflgnbbkhikcaaDoorSpPoints5
namespace Go.Proofs.YtgflgnbbkhikcaaDoor
open Go.RowKit

set_option maxRecDepth 100000 in
set_option maxHeartbeats 8000000 in
theorem points_law (a b : Sp) (i j k d : Int) (w : World) (i0 : 0 ≤ i) (i1 : i ≤ 4294967295) (j0 : 0 ≤ j) (j1 : j ≤ 4294967295) :
    Calls Tryd.prog 5 #[a.val, b.val, .int .u32 i, .int .u32 j, .int .i64 k, .int .i64 d] w fun e w' => e = .returned (.bool true) ∧ Below w.heap.size w w' := by
  have X := ((Own.start w).alloc #[.int .i64 a.lo, .int .i64 a.hi] 23).alloc #[.int .i64 b.lo, .int .i64 b.hi] 23
  simp only [World.size_alloc] at X
  rcases Int.lt_or_le a.hi a.lo with g0 | g0
  · clear i0 i1 j0 j1
    go_enter Tryd.func5, Tryd.ntmps5
    have hr := X.r2
    go_wp2_with fail
    refine (awake_any _).mono ?_
    rintro e w0 ⟨rfl, hb⟩
    replace X := X.to hb
    clear hb hr
    have hr := X.r2
    go_wp2
    go_ret
    exact ⟨rfl, by have HX := X.1; have hz := HX.size; go_grown⟩
  rcases Int.lt_or_le b.hi b.lo with g1 | g1
  · clear i0 i1 j0 j1
    go_enter Tryd.func5, Tryd.ntmps5
    have hr := X.r2
    go_wp2_with fail
    refine (awake_any _).mono ?_
    rintro e w0 ⟨rfl, hb⟩
    replace X := X.to hb
    clear hb hr
    have hr := X.r2
    go_wp2
    go_ret
    exact ⟨rfl, by have HX := X.1; have hz := HX.size; go_grown⟩
  rcases Int.lt_or_le a.lo (-268435456) with g2 | g2
  · clear i0 i1 j0 j1
    go_enter Tryd.func5, Tryd.ntmps5
    have hr := X.r2
    go_wp2_with fail
    refine (awake_any _).mono ?_
    rintro e w0 ⟨rfl, hb⟩
    replace X := X.to hb
    clear hb hr
    have hr := X.r2
    go_wp2
    go_ret
    exact ⟨rfl, by have HX := X.1; have hz := HX.size; go_grown⟩
  rcases Int.lt_or_le 268435456 a.hi with g3 | g3
  · clear i0 i1 j0 j1
    go_enter Tryd.func5, Tryd.ntmps5
    have hr := X.r2
    go_wp2_with fail
    refine (awake_any _).mono ?_
    rintro e w0 ⟨rfl, hb⟩
    replace X := X.to hb
    clear hb hr
    have hr := X.r2
    go_wp2
    go_ret
    exact ⟨rfl, by have HX := X.1; have hz := HX.size; go_grown⟩
  rcases Int.lt_or_le b.lo (-268435456) with g4 | g4
  · clear i0 i1 j0 j1
    go_enter Tryd.func5, Tryd.ntmps5
    have hr := X.r2
    go_wp2_with fail
    refine (awake_any _).mono ?_
    rintro e w0 ⟨rfl, hb⟩
    replace X := X.to hb
    clear hb hr
    have hr := X.r2
    go_wp2
    go_ret
    exact ⟨rfl, by have HX := X.1; have hz := HX.size; go_grown⟩
  rcases Int.lt_or_le 268435456 b.hi with g5 | g5
  · clear i0 i1 j0 j1
    go_enter Tryd.func5, Tryd.ntmps5
    have hr := X.r2
    go_wp2_with fail
    refine (awake_any _).mono ?_
    rintro e w0 ⟨rfl, hb⟩
    replace X := X.to hb
    clear hb hr
    have hr := X.r2
    go_wp2
    go_ret
    exact ⟨rfl, by have HX := X.1; have hz := HX.size; go_grown⟩
  rcases Int.lt_or_le k (-1048576) with g6 | g6
  · clear i0 i1 j0 j1
    go_enter Tryd.func5, Tryd.ntmps5
    have hr := X.r2
    go_wp2_with fail
    refine (awake_any _).mono ?_
    rintro e w0 ⟨rfl, hb⟩
    replace X := X.to hb
    clear hb hr
    have hr := X.r2
    go_wp2
    go_ret
    exact ⟨rfl, by have HX := X.1; have hz := HX.size; go_grown⟩
  rcases Int.lt_or_le 1048576 k with g7 | g7
  · clear i0 i1 j0 j1
    go_enter Tryd.func5, Tryd.ntmps5
    have hr := X.r2
    go_wp2_with fail
    refine (awake_any _).mono ?_
    rintro e w0 ⟨rfl, hb⟩
    replace X := X.to hb
    clear hb hr
    have hr := X.r2
    go_wp2
    go_ret
    exact ⟨rfl, by have HX := X.1; have hz := HX.size; go_grown⟩
  rcases Int.lt_or_le d 1 with g8 | g8
  · clear i0 i1 j0 j1
    go_enter Tryd.func5, Tryd.ntmps5
    have hr := X.r2
    go_wp2_with fail
    refine (awake_any _).mono ?_
    rintro e w0 ⟨rfl, hb⟩
    replace X := X.to hb
    clear hb hr
    have hr := X.r2
    go_wp2
    go_ret
    exact ⟨rfl, by have HX := X.1; have hz := HX.size; go_grown⟩
  rcases Int.lt_or_le 1048576 d with g9 | g9
  · clear i0 i1 j0 j1
    go_enter Tryd.func5, Tryd.ntmps5
    have hr := X.r2
    go_wp2_with fail
    refine (awake_any _).mono ?_
    rintro e w0 ⟨rfl, hb⟩
    replace X := X.to hb
    clear hb hr
    have hr := X.r2
    go_wp2
    go_ret
    exact ⟨rfl, by have HX := X.1; have hz := HX.size; go_grown⟩
  rcases Bool.eq_false_or_eq_true (hasB b 0) with z | z
  · rcases Int.lt_or_le a.lo 0 with r | r
    · exact points_zero_rneg a b i j k d w i0 i1 j0 j1 g0 g1 g2 g3 g4 g5 g6 g7 g8 g9 z r
    · exact points_zero_rpos a b i j k d w i0 i1 j0 j1 g0 g1 g2 g3 g4 g5 g6 g7 g8 g9 z r
  have z1 : 0 < b.lo ∨ b.hi < 0 := by
    have : ¬ (b.lo ≤ 0 ∧ 0 ≤ b.hi) := fun h => by rw [hasB_iff.2 h] at z; cases z
    omega
  rcases z1 with z | z
  · rcases Int.lt_or_le a.lo 0 with r | r
    · exact points_pos_rneg a b i j k d w i0 i1 j0 j1 g0 g1 g2 g3 g4 g5 g6 g7 g8 g9 z r
    · exact points_pos_rpos a b i j k d w i0 i1 j0 j1 g0 g1 g2 g3 g4 g5 g6 g7 g8 g9 z r
  · rcases Int.lt_or_le a.lo 0 with r | r
    · exact points_neg_rneg a b i j k d w i0 i1 j0 j1 g0 g1 g2 g3 g4 g5 g6 g7 g8 g9 z r
    · exact points_neg_rpos a b i j k d w i0 i1 j0 j1 g0 g1 g2 g3 g4 g5 g6 g7 g8 g9 z r
end Go.Proofs.YtgflgnbbkhikcaaDoor
