/- The program's Times of spans for any fraction (printed by gen_prod.py from XSpMul). -/
import Derived.Test.YtgflgnbbkhikcaaDoorSpScaled2
import Derived.Test.YtgflgnbbkhikcaaDoorSpMul
namespace Go.Proofs.YtgflgnbbkhikcaaDoor
open Go.RowKit

set_option maxHeartbeats 1000000 in
theorem tim2_any (a : Sp) (m d : Int) (w : World)
    (hp : vB a = true → d ≠ 0 → (Tr.mk a.lo m d).Ok2 ∧ (Tr.mk a.hi m d).Ok2) : Calls Tryd.prog 13 #[a.val, .int .i64 m, .int .i64 d] w (RetSE (timS a m d) (timE a m d) w) := by
  have X := ((Own.start w).alloc #[.int .i64 a.lo, .int .i64 a.hi] 23).alloc #[.int .i64 0, .int .i64 0] 23
  simp only [World.size_alloc] at X
  have HP := hide hp
  clear hp
  rcases Bool.eq_false_or_eq_true (vB a) with ha | ha
  rotate_left
  · have H := hide (tim_no (m := m) (d := d) ha)
    go_enter Tryd.func13, Tryd.ntmps13
    go_wp2_with fail
    refine (valid_any a _).mono ?_
    rintro e w1 ⟨rfl, hb⟩
    replace X := X.to hb
    clear hb
    have hr := X.r2
    rw [ha]
    go_wp2
    exact bodyPost_ret (v := .tuple #[Sp.zero.val, .int .i64 1]) (by simp [results, Tryd.results13, hr, Sp.zero, go_sem]) rfl (RetSE.mk (by have HX := X.1; have hz := HX.size; go_grown) H.out.2 H.out.1)
  rcases Bool.eq_false_or_eq_true (d == 0) with h0 | h0
  · have H := hide (tim_zero (m := m) ha (d := d) (by simpa using h0))
    go_enter Tryd.func13, Tryd.ntmps13
    go_wp2_with fail
    refine (valid_any a _).mono ?_
    rintro e w1 ⟨rfl, hb⟩
    replace X := X.to hb
    clear hb
    have hr := X.r2
    rw [ha]
    go_wp2
    exact bodyPost_ret (v := .tuple #[Sp.zero.val, .int .i64 16]) (by simp [results, Tryd.results13, hr, Sp.zero, go_sem]) rfl (RetSE.mk (by have HX := X.1; have hz := HX.size; go_grown) H.out.2 H.out.1)
  have hz0 : d ≠ 0 := by simpa using h0
  have H := hide (tim_yes (m := m) ha (d := d) hz0)
  have K := hide (HP.out ha hz0)
  clear hz0
  go_enter Tryd.func13, Tryd.ntmps13
  go_wp2_with fail
  refine (valid_any a _).mono ?_
  rintro e w1 ⟨rfl, hb⟩
  replace X := X.to hb
  clear hb
  have hr := X.r2
  rw [ha]
  go_wp2_with fail
  go_region
  all_goals
    go_wp2_with fail
    refine (scaled2_any ⟨a.lo, m, d⟩ ⟨a.lo, m, d⟩ ⟨a.hi, m, d⟩ ⟨a.hi, m, d⟩ _ K.out.1 K.out.1 K.out.2 K.out.2).mono ?_
    rintro e w2 ⟨rfl, hb⟩
    have Y := X.to (below_via (by go_grown) (by go_size) hb)
    clear hb hr
    have hr := Y.r2
    go_wp2
    exact bodyPost_ret (v := .tuple #[(s4S ⟨a.lo, m, d⟩ ⟨a.lo, m, d⟩ ⟨a.hi, m, d⟩ ⟨a.hi, m, d⟩).val, .int .i64 (s4E ⟨a.lo, m, d⟩ ⟨a.lo, m, d⟩ ⟨a.hi, m, d⟩ ⟨a.hi, m, d⟩)]) (by simp [results, Tryd.results13, hr, go_sem]) rfl (RetSE.mk (by have HX := Y.1; have hz := HX.size; go_grown) H.out.2 H.out.1)


end Go.Proofs.YtgflgnbbkhikcaaDoor
