/- IntensityDepths: the law's walk (printed by gen_depths.py). -/
import Derived.Test.YtjnifgheipmanaaItRt
import Derived.Test.YtjnifgheipmanaaItRv
namespace Go.Proofs.Ytjnifgheipmanaa
open Go.RowKit

set_option maxHeartbeats 4000000 in
theorem depths_big (T : Tab) (a : TabA) (x y : Int) (w : World) (ht : TabSl w T a) (t1 : bigT T = true) :
    Calls Try.prog 3 #[T.val a, .int .i64 x, .int .i64 y] w fun e w' => e = .returned (.bool true) ∧ Below w.heap.size w w' := by
  obtain ⟨A1, A2, A3, k1, k2, k3⟩ := a
  have X := (Own.start w).alloc #[.slice A1 T.ds.length k1, .slice A2 T.ps.length k2, .slice A3 T.rows.length k3] 25
  have HT := hide ht
  clear ht
  go_enter Try.func3, Try.ntmps3
  have hr := X.r1
  go_wp2_with fail
  refine (awake_any _).mono ?_
  rintro e wz ⟨rfl, hb⟩
  replace X := X.to hb
  clear hb hr
  have hr := X.r1
  go_wp2_with fail
  refine (large_any T ⟨A1, A2, A3, k1, k2, k3⟩ _ (HT.out.below X.1)).mono ?_
  rintro e wz ⟨rfl, hb⟩
  rw [t1]
  replace X := X.to hb
  clear hb hr
  go_wp2
  go_ret
  exact ⟨rfl, X.1⟩
set_option maxHeartbeats 4000000 in
theorem depths_bad (T : Tab) (a : TabA) (x y : Int) (w : World) (ht : TabSl w T a) (t1 : bigT T = false) (hv : vT T = false) :
    Calls Try.prog 3 #[T.val a, .int .i64 x, .int .i64 y] w fun e w' => e = .returned (.bool true) ∧ Below w.heap.size w w' := by
  obtain ⟨A1, A2, A3, k1, k2, k3⟩ := a
  have X := (Own.start w).alloc #[.slice A1 T.ds.length k1, .slice A2 T.ps.length k2, .slice A3 T.rows.length k3] 25
  have HT := hide ht
  clear ht
  have D := hide (fun W (h : TabSl W T ⟨A1, A2, A3, k1, k2, k3⟩) => Depth_any T ⟨A1, A2, A3, k1, k2, k3⟩ x y W h)
  have R := hide (fun W (h : TabSl W T ⟨A1, A2, A3, k1, k2, k3⟩) => Rate_any T ⟨A1, A2, A3, k1, k2, k3⟩ x y W h)
  have E : depE T x y = 1 ∧ depLo T x y = 0 ∧ depHi T x y = 0 ∧ ratLo T x y = 0 ∧ ratHi T x y = 0 := by
    rcases dep_cases T x y with ⟨_, h⟩ | ⟨h, _⟩ | ⟨h, _⟩
    · exact h
    all_goals rw [hv] at h; cases h
  obtain ⟨e1, e2, e3, e4, e5⟩ := E
  rw [e1, e2, e3] at D
  rw [e1, e4, e5] at R
  clear e1 e2 e3 e4 e5
  go_enter Try.func3, Try.ntmps3
  have hr := X.r1
  go_wp2_with fail
  refine (awake_any _).mono ?_
  rintro e wz ⟨rfl, hb⟩
  replace X := X.to hb
  clear hb hr
  have hr := X.r1
  go_wp2_with fail
  refine (large_any T ⟨A1, A2, A3, k1, k2, k3⟩ _ (HT.out.below X.1)).mono ?_
  rintro e wz ⟨rfl, hb⟩
  rw [t1]
  replace X := X.to hb
  clear hb hr
  have hr := X.r1
  go_wp2_with fail
  refine (D.out _ (HT.out.below X.1)).mono ?_
  rintro e wz ⟨rfl, hb⟩
  replace X := (X.to hb).alloc #[.int .i64 0, .int .i64 0] 29
  clear hb hr
  have hr := X.r2
  go_wp2_with fail
  refine (R.out _ (HT.out.below X.1)).mono ?_
  rintro e wz ⟨rfl, hb⟩
  replace X := (X.to hb).alloc #[.int .i64 0, .int .i64 0] 29
  clear hb hr
  have hr := X.r3
  go_wp2_with fail
  refine (rfvalid_any T ⟨A1, A2, A3, k1, k2, k3⟩ _ (HT.out.below X.1)).mono ?_
  rintro e wz ⟨rfl, hb⟩
  rw [hv]
  replace X := X.to hb
  clear hb hr
  have hr := X.r3
  go_wp2_with fail
  refine (tvalid_any T ⟨A1, A2, A3, k1, k2, k3⟩ _ (HT.out.below X.1)).mono ?_
  rintro e wz ⟨rfl, hb⟩
  rw [hv]
  replace X := X.to hb
  clear hb hr
  have hr := X.r3
  go_wp2
  go_ret
  exact ⟨rfl, X.1⟩
set_option maxHeartbeats 4000000 in
theorem depths_ox (T : Tab) (a : TabA) (x y : Int) (w : World) (ht : TabSl w T a) (t1 : bigT T = false) (hv : vT T = true) (hx : inL T.ds x = false) :
    Calls Try.prog 3 #[T.val a, .int .i64 x, .int .i64 y] w fun e w' => e = .returned (.bool true) ∧ Below w.heap.size w w' := by
  obtain ⟨A1, A2, A3, k1, k2, k3⟩ := a
  have X := (Own.start w).alloc #[.slice A1 T.ds.length k1, .slice A2 T.ps.length k2, .slice A3 T.rows.length k3] 25
  have HT := hide ht
  clear ht
  have D := hide (fun W (h : TabSl W T ⟨A1, A2, A3, k1, k2, k3⟩) => Depth_any T ⟨A1, A2, A3, k1, k2, k3⟩ x y W h)
  have R := hide (fun W (h : TabSl W T ⟨A1, A2, A3, k1, k2, k3⟩) => Rate_any T ⟨A1, A2, A3, k1, k2, k3⟩ x y W h)
  have E : depE T x y = 2 ∧ depLo T x y = 0 ∧ depHi T x y = 0 ∧ ratLo T x y = 0 ∧ ratHi T x y = 0 := by
    rcases dep_cases T x y with ⟨h, _⟩ | ⟨_, _, h⟩ | ⟨_, h, _⟩
    · rw [hv] at h; cases h
    · exact h
    · have := h.1
      rw [hx] at this; cases this
  obtain ⟨e1, e2, e3, e4, e5⟩ := E
  rw [e1, e2, e3] at D
  rw [e1, e4, e5] at R
  clear e1 e2 e3 e4 e5
  go_enter Try.func3, Try.ntmps3
  have hr := X.r1
  go_wp2_with fail
  refine (awake_any _).mono ?_
  rintro e wz ⟨rfl, hb⟩
  replace X := X.to hb
  clear hb hr
  have hr := X.r1
  go_wp2_with fail
  refine (large_any T ⟨A1, A2, A3, k1, k2, k3⟩ _ (HT.out.below X.1)).mono ?_
  rintro e wz ⟨rfl, hb⟩
  rw [t1]
  replace X := X.to hb
  clear hb hr
  have hr := X.r1
  go_wp2_with fail
  refine (D.out _ (HT.out.below X.1)).mono ?_
  rintro e wz ⟨rfl, hb⟩
  replace X := (X.to hb).alloc #[.int .i64 0, .int .i64 0] 29
  clear hb hr
  have hr := X.r2
  go_wp2_with fail
  refine (R.out _ (HT.out.below X.1)).mono ?_
  rintro e wz ⟨rfl, hb⟩
  replace X := (X.to hb).alloc #[.int .i64 0, .int .i64 0] 29
  clear hb hr
  have hr := X.r3
  go_wp2_with fail
  refine (rfvalid_any T ⟨A1, A2, A3, k1, k2, k3⟩ _ (HT.out.below X.1)).mono ?_
  rintro e wz ⟨rfl, hb⟩
  rw [hv]
  replace X := X.to hb
  clear hb hr
  have hr := X.r3
  go_wp2_with fail
  refine (rfwithin_any T.ds A1 k1 x _ (HT.out.below X.1).1 (of_vT hv).d1).mono ?_
  rintro e wz ⟨rfl, rfl⟩
  rw [hx]
  clear hr
  have hr := X.r3
  go_wp2
  go_ret
  exact ⟨rfl, X.1⟩
set_option maxHeartbeats 4000000 in
theorem depths_oy (T : Tab) (a : TabA) (x y : Int) (w : World) (ht : TabSl w T a) (t1 : bigT T = false) (hv : vT T = true) (hx : inL T.ds x = true) (hy : inL T.ps y = false) :
    Calls Try.prog 3 #[T.val a, .int .i64 x, .int .i64 y] w fun e w' => e = .returned (.bool true) ∧ Below w.heap.size w w' := by
  obtain ⟨A1, A2, A3, k1, k2, k3⟩ := a
  have X := (Own.start w).alloc #[.slice A1 T.ds.length k1, .slice A2 T.ps.length k2, .slice A3 T.rows.length k3] 25
  have HT := hide ht
  clear ht
  have D := hide (fun W (h : TabSl W T ⟨A1, A2, A3, k1, k2, k3⟩) => Depth_any T ⟨A1, A2, A3, k1, k2, k3⟩ x y W h)
  have R := hide (fun W (h : TabSl W T ⟨A1, A2, A3, k1, k2, k3⟩) => Rate_any T ⟨A1, A2, A3, k1, k2, k3⟩ x y W h)
  have E : depE T x y = 2 ∧ depLo T x y = 0 ∧ depHi T x y = 0 ∧ ratLo T x y = 0 ∧ ratHi T x y = 0 := by
    rcases dep_cases T x y with ⟨h, _⟩ | ⟨_, _, h⟩ | ⟨_, h, _⟩
    · rw [hv] at h; cases h
    · exact h
    · have := h.2
      rw [hy] at this; cases this
  obtain ⟨e1, e2, e3, e4, e5⟩ := E
  rw [e1, e2, e3] at D
  rw [e1, e4, e5] at R
  clear e1 e2 e3 e4 e5
  go_enter Try.func3, Try.ntmps3
  have hr := X.r1
  go_wp2_with fail
  refine (awake_any _).mono ?_
  rintro e wz ⟨rfl, hb⟩
  replace X := X.to hb
  clear hb hr
  have hr := X.r1
  go_wp2_with fail
  refine (large_any T ⟨A1, A2, A3, k1, k2, k3⟩ _ (HT.out.below X.1)).mono ?_
  rintro e wz ⟨rfl, hb⟩
  rw [t1]
  replace X := X.to hb
  clear hb hr
  have hr := X.r1
  go_wp2_with fail
  refine (D.out _ (HT.out.below X.1)).mono ?_
  rintro e wz ⟨rfl, hb⟩
  replace X := (X.to hb).alloc #[.int .i64 0, .int .i64 0] 29
  clear hb hr
  have hr := X.r2
  go_wp2_with fail
  refine (R.out _ (HT.out.below X.1)).mono ?_
  rintro e wz ⟨rfl, hb⟩
  replace X := (X.to hb).alloc #[.int .i64 0, .int .i64 0] 29
  clear hb hr
  have hr := X.r3
  go_wp2_with fail
  refine (rfvalid_any T ⟨A1, A2, A3, k1, k2, k3⟩ _ (HT.out.below X.1)).mono ?_
  rintro e wz ⟨rfl, hb⟩
  rw [hv]
  replace X := X.to hb
  clear hb hr
  have hr := X.r3
  go_wp2_with fail
  refine (rfwithin_any T.ds A1 k1 x _ (HT.out.below X.1).1 (of_vT hv).d1).mono ?_
  rintro e wz ⟨rfl, rfl⟩
  rw [hx]
  clear hr
  have hr := X.r3
  go_wp2_with fail
  refine (rfwithin_any T.ps A2 k2 y _ (HT.out.below X.1).2.1 (of_vT hv).p1).mono ?_
  rintro e wz ⟨rfl, rfl⟩
  rw [hy]
  clear hr
  have hr := X.r3
  go_wp2
  go_ret
  exact ⟨rfl, X.1⟩
set_option maxHeartbeats 4000000 in
theorem depths_in (T : Tab) (a : TabA) (x y : Int) (w : World) (ht : TabSl w T a) (t1 : bigT T = false) (hv : vT T = true) (hx : inL T.ds x = true) (hy : inL T.ps y = true) :
    Calls Try.prog 3 #[T.val a, .int .i64 x, .int .i64 y] w fun e w' => e = .returned (.bool true) ∧ Below w.heap.size w w' := by
  obtain ⟨A1, A2, A3, k1, k2, k3⟩ := a
  have X := (Own.start w).alloc #[.slice A1 T.ds.length k1, .slice A2 T.ps.length k2, .slice A3 T.rows.length k3] 25
  have HT := hide ht
  clear ht
  have D := hide (fun W (h : TabSl W T ⟨A1, A2, A3, k1, k2, k3⟩) => Depth_any T ⟨A1, A2, A3, k1, k2, k3⟩ x y W h)
  have R := hide (fun W (h : TabSl W T ⟨A1, A2, A3, k1, k2, k3⟩) => Rate_any T ⟨A1, A2, A3, k1, k2, k3⟩ x y W h)
  have E : depE T x y = 0 ∧ depLo T x y = loT T x y ∧ depHi T x y = hiT T x y ∧ ratLo T x y = nT T x y * 3600 / (dT T x y * x) ∧ ratHi T x y = cdiv (nT T x y * 3600) (dT T x y * x) := by
    rcases dep_cases T x y with ⟨h, _⟩ | ⟨_, h, _⟩ | ⟨_, _, h⟩
    · rw [hv] at h; cases h
    · exact absurd ⟨hx, hy⟩ h
    · exact h
  obtain ⟨e1, e2, e3, e4, e5⟩ := E
  rw [e1, e2, e3] at D
  rw [e1, e4, e5] at R
  clear e1 e2 e3 e4 e5
  have D2 := hide (fun W (h : TabSl W T ⟨A1, A2, A3, k1, k2, k3⟩) => rfdepth_any T ⟨A1, A2, A3, k1, k2, k3⟩ x y W h (of_vT hv) ⟨hx, hy⟩)
  have R2 := hide (fun W (h : TabSl W T ⟨A1, A2, A3, k1, k2, k3⟩) => rfrate_any T ⟨A1, A2, A3, k1, k2, k3⟩ x y W h (of_vT hv) ⟨hx, hy⟩)
  generalize loT T x y = lo at *
  generalize hiT T x y = hi at *
  generalize nT T x y * 3600 / (dT T x y * x) = rl at *
  generalize cdiv (nT T x y * 3600) (dT T x y * x) = rh at *
  go_enter Try.func3, Try.ntmps3
  have hr := X.r1
  go_wp2_with fail
  refine (awake_any _).mono ?_
  rintro e wz ⟨rfl, hb⟩
  replace X := X.to hb
  clear hb hr
  have hr := X.r1
  go_wp2_with fail
  refine (large_any T ⟨A1, A2, A3, k1, k2, k3⟩ _ (HT.out.below X.1)).mono ?_
  rintro e wz ⟨rfl, hb⟩
  rw [t1]
  replace X := X.to hb
  clear hb hr
  have hr := X.r1
  go_wp2_with fail
  refine (D.out _ (HT.out.below X.1)).mono ?_
  rintro e wz ⟨rfl, hb⟩
  replace X := (X.to hb).alloc #[.int .i64 lo, .int .i64 hi] 29
  clear hb hr
  generalize hb1 : wz.heap.size = b1 at *
  have hr := X.r2
  go_wp2_with fail
  refine (R.out _ (HT.out.below X.1)).mono ?_
  rintro e wz ⟨rfl, hb⟩
  replace X := (X.to hb).alloc #[.int .i64 rl, .int .i64 rh] 29
  clear hb hr
  generalize hb2 : wz.heap.size = b2 at *
  have hr := X.r3
  go_wp2_with fail
  refine (rfvalid_any T ⟨A1, A2, A3, k1, k2, k3⟩ _ (HT.out.below X.1)).mono ?_
  rintro e wz ⟨rfl, hb⟩
  rw [hv]
  replace X := X.to hb
  clear hb hr
  have hr := X.r3
  go_wp2_with fail
  refine (rfwithin_any T.ds A1 k1 x _ (HT.out.below X.1).1 (of_vT hv).d1).mono ?_
  rintro e wz ⟨rfl, rfl⟩
  rw [hx]
  clear hr
  have hr := X.r3
  go_wp2_with fail
  refine (rfwithin_any T.ps A2 k2 y _ (HT.out.below X.1).2.1 (of_vT hv).p1).mono ?_
  rintro e wz ⟨rfl, rfl⟩
  rw [hy]
  clear hr
  have V := hide (fun W (h : TabSl W T ⟨A1, A2, A3, k1, k2, k3⟩) => tvalid_any T ⟨A1, A2, A3, k1, k2, k3⟩ W h)
  rw [hv] at V
  clear hx hy hv t1
  have hr := X.r3
  go_wp2_with fail
  have HX := hide X
  clear X
  go_region_held3 (fun w' => w'.cell? ⟨w.heap.size, 0, none⟩ = some (.slice A1 T.ds.length k1) ∧ w'.cell? ⟨w.heap.size, 1, none⟩ = some (.slice A2 T.ps.length k2) ∧ w'.cell? ⟨w.heap.size, 2, none⟩ = some (.slice A3 T.rows.length k3) ∧
      w'.cell? ⟨b1, 0, none⟩ = some (.int .i64 lo) ∧ w'.cell? ⟨b1, 1, none⟩ = some (.int .i64 hi) ∧ w'.cell? ⟨b2, 0, none⟩ = some (.int .i64 rl) ∧ w'.cell? ⟨b2, 1, none⟩ = some (.int .i64 rh)) (go_keep)
    (first
      | (go_at_call 14; (first | refine (V.out _ (HT.out.below HX.out.1)).mono ?_ | refine (V.out _ (HT.out.below HX.out.drew.1)).mono ?_ | refine (V.out _ (HT.out.below HX.out.drew.drew.1)).mono ?_ | refine (V.out _ (HT.out.below HX.out.drew.drew.drew.1)).mono ?_); rintro e wv ⟨rfl, hb⟩; (first | (replace HX := hide (HX.out.to hb)) | (replace HX := hide (HX.out.drew.to hb)) | (replace HX := hide (HX.out.drew.drew.to hb)) | (replace HX := hide (HX.out.drew.drew.drew.to hb))); have hk := keeps hb; clear hb)
      | (go_at_call 16; (first | refine (D2.out _ (HT.out.below HX.out.1)).mono ?_ | refine (D2.out _ (HT.out.below HX.out.drew.1)).mono ?_ | refine (D2.out _ (HT.out.below HX.out.drew.drew.1)).mono ?_ | refine (D2.out _ (HT.out.below HX.out.drew.drew.drew.1)).mono ?_); rintro e wv ⟨rfl, hb⟩; (first | (replace HX := hide (HX.out.to hb)) | (replace HX := hide (HX.out.drew.to hb)) | (replace HX := hide (HX.out.drew.drew.to hb)) | (replace HX := hide (HX.out.drew.drew.drew.to hb))); have hk := keeps hb; clear hb)
      | (go_at_call 17; (first | refine (R2.out _ (HT.out.below HX.out.1)).mono ?_ | refine (R2.out _ (HT.out.below HX.out.drew.1)).mono ?_ | refine (R2.out _ (HT.out.below HX.out.drew.drew.1)).mono ?_ | refine (R2.out _ (HT.out.below HX.out.drew.drew.drew.1)).mono ?_); rintro e wv ⟨rfl, hb⟩; (first | (replace HX := hide (HX.out.to hb)) | (replace HX := hide (HX.out.drew.to hb)) | (replace HX := hide (HX.out.drew.drew.to hb)) | (replace HX := hide (HX.out.drew.drew.drew.to hb))); have hk := keeps hb; clear hb))
  go_wp2
  go_ret
  exact ⟨rfl, HX.out.1⟩
theorem depths_law (T : Tab) (a : TabA) (x y : Int) (w : World) (ht : TabSl w T a) :
    Calls Try.prog 3 #[T.val a, .int .i64 x, .int .i64 y] w fun e w' => e = .returned (.bool true) ∧ Below w.heap.size w w' := by
  rcases Bool.eq_false_or_eq_true (bigT T) with t1 | t1
  · exact depths_big T a x y w ht t1
  rcases Bool.eq_false_or_eq_true (vT T) with hv | hv
  rotate_left
  · exact depths_bad T a x y w ht t1 hv
  rcases Bool.eq_false_or_eq_true (inL T.ds x) with hx | hx
  rotate_left
  · exact depths_ox T a x y w ht t1 hv hx
  rcases Bool.eq_false_or_eq_true (inL T.ps y) with hy | hy
  · exact depths_in T a x y w ht t1 hv hx hy
  · exact depths_oy T a x y w ht t1 hv hx hy
end Go.Proofs.Ytjnifgheipmanaa
