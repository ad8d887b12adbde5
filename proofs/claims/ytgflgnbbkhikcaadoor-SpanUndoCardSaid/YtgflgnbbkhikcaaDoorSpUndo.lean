/- SpanUndo: sums and products do not depend on the order, what is undone is inside, and a product with a sum is inside of the sum of the products: for all spans the law returns true. -/
import Derived.Test.YtgflgnbbkhikcaaDoorSpAwake
import Derived.Test.YtgflgnbbkhikcaaDoorSpUndoP
import Derived.Test.YtgflgnbbkhikcaaDoorSpUndo0
import Derived.Test.YtgflgnbbkhikcaaDoorSpUndo1
import Derived.Test.YtgflgnbbkhikcaaDoorSpUndo2
import Derived.Test.YtgflgnbbkhikcaaDoorSpUndo3
namespace Go.Proofs.YtgflgnbbkhikcaaDoor
open Go.RowKit


set_option maxRecDepth 100000 in
set_option maxHeartbeats 16000000 in
theorem undo_law (a b c : Sp) (w : World) : Calls Tryd.prog 7 #[a.val, b.val, c.val] w fun e w' => e = .returned (.bool true) ∧ Below w.heap.size w w' := by
  have X := ((((Own.start w).alloc #[.int .i64 a.lo, .int .i64 a.hi] 23).alloc #[.int .i64 b.lo, .int .i64 b.hi] 23).alloc #[.int .i64 c.lo, .int .i64 c.hi] 23)
  simp only [World.size_alloc] at X
  have V1 := rvalid_any a
  have V2 := rvalid_any b
  have V3 := rvalid_any c
  rcases Bool.eq_false_or_eq_true (vB a) with ha | ha
  rotate_left
  · rw [ha] at V1
    clear ha V2 V3
    go_enter Tryd.func7, Tryd.ntmps7
    have hr := X.r3
    go_wp2_with fail
    refine (awake_any _).mono ?_
    rintro e w0 ⟨rfl, hb⟩
    replace X := X.to hb
    clear hb hr
    have hr := X.r3
    go_wp2_with fail
    refine (V1 _).mono ?_
    rintro e w1 ⟨rfl, hb⟩
    replace X := X.to hb
    clear hb hr
    have hr := X.r3
    go_wp2
    go_ret
    exact ⟨rfl, by have HX := X.1; have hz := HX.size; go_grown⟩
  rcases Bool.eq_false_or_eq_true (vB b) with hb | hb
  rotate_left
  · rw [ha] at V1
    rw [hb] at V2
    clear ha hb V3
    go_enter Tryd.func7, Tryd.ntmps7
    have hr := X.r3
    go_wp2_with fail
    refine (awake_any _).mono ?_
    rintro e w0 ⟨rfl, hb⟩
    replace X := X.to hb
    clear hb hr
    have hr := X.r3
    go_wp2_with fail
    refine (V1 _).mono ?_
    rintro e w1 ⟨rfl, hb⟩
    replace X := X.to hb
    clear hb hr
    have hr := X.r3
    go_wp2_with fail
    refine (V2 _).mono ?_
    rintro e w2 ⟨rfl, hb⟩
    replace X := X.to hb
    clear hb hr
    have hr := X.r3
    go_wp2
    go_ret
    exact ⟨rfl, by have HX := X.1; have hz := HX.size; go_grown⟩
  rcases Bool.eq_false_or_eq_true (vB c) with hc | hc
  rotate_left
  · rw [ha] at V1
    rw [hb] at V2
    rw [hc] at V3
    clear ha hb hc
    go_enter Tryd.func7, Tryd.ntmps7
    have hr := X.r3
    go_wp2_with fail
    refine (awake_any _).mono ?_
    rintro e w0 ⟨rfl, hb⟩
    replace X := X.to hb
    clear hb hr
    have hr := X.r3
    go_wp2_with fail
    refine (V1 _).mono ?_
    rintro e w1 ⟨rfl, hb⟩
    replace X := X.to hb
    clear hb hr
    have hr := X.r3
    go_wp2_with fail
    refine (V2 _).mono ?_
    rintro e w2 ⟨rfl, hb⟩
    replace X := X.to hb
    clear hb hr
    have hr := X.r3
    go_wp2_with fail
    refine (V3 _).mono ?_
    rintro e w3 ⟨rfl, hb⟩
    replace X := X.to hb
    clear hb hr
    have hr := X.r3
    go_wp2
    go_ret
    exact ⟨rfl, by have HX := X.1; have hz := HX.size; go_grown⟩
  have ha1 := (vB_iff.1 ha).1
  have hb1 := (vB_iff.1 hb).1
  rcases res_vB (show a.lo + b.lo ≤ a.hi + b.hi by omega) with ⟨ex, e2, e3⟩ | ⟨_, e2, e3⟩
  rotate_left
  · exact undo_e5 a b c w ha hb hc e2 e3
  have hle : m4 c a + m4 c b ≤ M4 c a + M4 c b := by
    have := m4_le c a
    have := m4_le c b
    omega
  rcases res_vB (show a.lo + b.lo - b.hi ≤ a.hi + b.hi - b.lo by omega) with ⟨_, i0, i1⟩ | ⟨_, i0, i1⟩ <;> rcases m_cases c ⟨a.lo + b.lo, a.hi + b.hi⟩ with ⟨j0, j1, _⟩ | ⟨j0, j1⟩
  · rcases m_cases c a with ⟨k0, k1, k2⟩ | ⟨k0, k1⟩
    · rcases m_cases c b with ⟨l0, l1, l2⟩ | ⟨l0, l1⟩
      · rcases res_vB hle with ⟨_, r0, r1⟩ | ⟨_, r0, r1⟩
        · exact undo_i0_n5 a b c w ha hb hc ex e2 e3 i0 i1 j0 j1 k0 k1 k2 l0 l1 l2 r0 r1
        · exact undo_i0_n4 a b c w ha hb hc ex e2 e3 i0 i1 j0 j1 k0 k1 k2 l0 l1 l2 r0 r1
      · exact undo_i0_n3 a b c w ha hb hc ex e2 e3 i0 i1 j0 j1 k0 k1 l0 l1
    · exact undo_i0_n2 a b c w ha hb hc ex e2 e3 i0 i1 j0 j1 k0 k1
  · exact undo_i0_n1 a b c w ha hb hc ex e2 e3 i0 i1 j0 j1
  · rcases m_cases c a with ⟨k0, k1, k2⟩ | ⟨k0, k1⟩
    · rcases m_cases c b with ⟨l0, l1, l2⟩ | ⟨l0, l1⟩
      · rcases res_vB hle with ⟨_, r0, r1⟩ | ⟨_, r0, r1⟩
        · exact undo_i5_n5 a b c w ha hb hc ex e2 e3 i0 i1 j0 j1 k0 k1 k2 l0 l1 l2 r0 r1
        · exact undo_i5_n4 a b c w ha hb hc ex e2 e3 i0 i1 j0 j1 k0 k1 k2 l0 l1 l2 r0 r1
      · exact undo_i5_n3 a b c w ha hb hc ex e2 e3 i0 i1 j0 j1 k0 k1 l0 l1
    · exact undo_i5_n2 a b c w ha hb hc ex e2 e3 i0 i1 j0 j1 k0 k1
  · exact undo_i5_n1 a b c w ha hb hc ex e2 e3 i0 i1 j0 j1
end Go.Proofs.YtgflgnbbkhikcaaDoor
