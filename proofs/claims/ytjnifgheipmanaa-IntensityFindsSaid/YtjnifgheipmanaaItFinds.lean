/- IntensityFinds: the law's walk (printed by gen_finds.py). -/
import Derived.Test.YtjnifgheipmanaaItFd
namespace Go.Proofs.Ytjnifgheipmanaa
open Go.RowKit

theorem FRes.no1 {b2 : Bool} {l : List Int} {g : Nat → Int} {wh v lo hi er : Int} (h : FRes false b2 l g wh v lo hi er) : lo = 0 ∧ hi = 0 ∧ er = 1 := by
  rcases h with ⟨_, h⟩ | ⟨h, _⟩ | ⟨h, _⟩ | ⟨h, _⟩
  · exact h
  all_goals cases h
theorem FRes.no2 {l : List Int} {g : Nat → Int} {wh v lo hi er : Int} (h : FRes true false l g wh v lo hi er) : lo = 0 ∧ hi = 0 ∧ er = 2 := by
  rcases h with ⟨h, _⟩ | ⟨_, _, h⟩ | ⟨_, h, _⟩ | ⟨_, h, _⟩
  · cases h
  · exact h
  all_goals cases h
set_option maxHeartbeats 4000000 in
theorem finds_big (T : Tab) (a : TabA) (v x y : Int) (w : World) (ht : TabSl w T a) (t1 : bigT T = true) :
    Calls Try.prog 5 #[T.val a, .int .i64 x, .int .i64 y, .int .i64 v] w fun e w' => e = .returned (.bool true) ∧ Below w.heap.size w w' := by
  obtain ⟨A1, A2, A3, k1, k2, k3⟩ := a
  have X := (Own.start w).alloc #[.slice A1 T.ds.length k1, .slice A2 T.ps.length k2, .slice A3 T.rows.length k3] 25
  have HT := hide ht
  clear ht
  go_enter Try.func5, Try.ntmps5
  have hr := X.r1
  go_wp2_with fail
  refine (awake_any _).mono ?_
  rintro e wz ⟨rfl, hb⟩
  replace X := X.to hb
  clear hb hr
  have hr := X.r1
  go_wp2_with fail
  refine (large_any T ⟨A1, A2, A3, k1, k2, k3⟩ _ (HT.out.below X.1)).mono ?_
  rintro e wz ⟨rfl, hb⟩
  rw [t1]
  replace X := X.to hb
  clear hb hr
  go_wp2
  go_ret
  exact ⟨rfl, X.1⟩
set_option maxHeartbeats 4000000 in
theorem finds_bad (T : Tab) (a : TabA) (v x y : Int) (w : World) (ht : TabSl w T a) (t1 : bigT T = false) (hv : vT T = false) :
    Calls Try.prog 5 #[T.val a, .int .i64 x, .int .i64 y, .int .i64 v] w fun e w' => e = .returned (.bool true) ∧ Below w.heap.size w w' := by
  obtain ⟨A1, A2, A3, k1, k2, k3⟩ := a
  have X := (Own.start w).alloc #[.slice A1 T.ds.length k1, .slice A2 T.ps.length k2, .slice A3 T.rows.length k3] 25
  have HT := hide ht
  clear ht
  go_enter Try.func5, Try.ntmps5
  have hr := X.r1
  go_wp2_with fail
  refine (awake_any _).mono ?_
  rintro e wz ⟨rfl, hb⟩
  replace X := X.to hb
  clear hb hr
  have hr := X.r1
  go_wp2_with fail
  refine (large_any T ⟨A1, A2, A3, k1, k2, k3⟩ _ (HT.out.below X.1)).mono ?_
  rintro e wz ⟨rfl, hb⟩
  rw [t1]
  replace X := X.to hb
  clear hb hr
  have hr := X.r1
  go_wp2_with fail
  refine (dur_res T ⟨A1, A2, A3, k1, k2, k3⟩ v y _ (HT.out.below X.1)).mono ?_
  rintro e wz ⟨hb, lo, hi, er, rfl, hf⟩
  rw [hv] at hf
  obtain ⟨rfl, rfl, rfl⟩ := hf.no1
  clear hf
  replace X := (X.to hb).alloc #[.int .i64 0, .int .i64 0] 29
  clear hb hr
  have hr := X.r2
  go_wp2_with fail
  refine (per_res T ⟨A1, A2, A3, k1, k2, k3⟩ v x _ (HT.out.below X.1)).mono ?_
  rintro e wz ⟨hb, lo2, hi2, er2, rfl, hf⟩
  rw [hv] at hf
  obtain ⟨rfl, rfl, rfl⟩ := hf.no1
  clear hf
  replace X := (X.to hb).alloc #[.int .i64 0, .int .i64 0] 29
  clear hb hr
  have hr := X.r3
  go_wp2_with fail
  refine (rfvalid_any T ⟨A1, A2, A3, k1, k2, k3⟩ _ (HT.out.below X.1)).mono ?_
  rintro e wz ⟨rfl, hb⟩
  rw [hv]
  replace X := X.to hb
  clear hb hr
  have hr := X.r3
  go_wp2
  go_ret
  exact ⟨rfl, X.1⟩
set_option maxHeartbeats 4000000 in
theorem finds_oo (T : Tab) (a : TabA) (v x y : Int) (w : World) (ht : TabSl w T a) (t1 : bigT T = false) (hv : vT T = true) (hy : inL T.ps y = false) (hx : inL T.ds x = false) :
    Calls Try.prog 5 #[T.val a, .int .i64 x, .int .i64 y, .int .i64 v] w fun e w' => e = .returned (.bool true) ∧ Below w.heap.size w w' := by
  obtain ⟨A1, A2, A3, k1, k2, k3⟩ := a
  have X := (Own.start w).alloc #[.slice A1 T.ds.length k1, .slice A2 T.ps.length k2, .slice A3 T.rows.length k3] 25
  have HT := hide ht
  clear ht
  go_enter Try.func5, Try.ntmps5
  have hr := X.r1
  go_wp2_with fail
  refine (awake_any _).mono ?_
  rintro e wz ⟨rfl, hb⟩
  replace X := X.to hb
  clear hb hr
  have hr := X.r1
  go_wp2_with fail
  refine (large_any T ⟨A1, A2, A3, k1, k2, k3⟩ _ (HT.out.below X.1)).mono ?_
  rintro e wz ⟨rfl, hb⟩
  rw [t1]
  replace X := X.to hb
  clear hb hr
  have hr := X.r1
  go_wp2_with fail
  refine (dur_res T ⟨A1, A2, A3, k1, k2, k3⟩ v y _ (HT.out.below X.1)).mono ?_
  rintro e wz ⟨hb, lo, hi, er, rfl, hf⟩
  rw [hv, hy] at hf
  obtain ⟨rfl, rfl, rfl⟩ := hf.no2
  clear hf
  replace X := (X.to hb).alloc #[.int .i64 0, .int .i64 0] 29
  clear hb hr
  have hr := X.r2
  go_wp2_with fail
  refine (per_res T ⟨A1, A2, A3, k1, k2, k3⟩ v x _ (HT.out.below X.1)).mono ?_
  rintro e wz ⟨hb, lo2, hi2, er2, rfl, hf⟩
  rw [hv, hx] at hf
  obtain ⟨rfl, rfl, rfl⟩ := hf.no2
  clear hf
  replace X := (X.to hb).alloc #[.int .i64 0, .int .i64 0] 29
  clear hb hr
  have hr := X.r3
  go_wp2_with fail
  refine (rfvalid_any T ⟨A1, A2, A3, k1, k2, k3⟩ _ (HT.out.below X.1)).mono ?_
  rintro e wz ⟨rfl, hb⟩
  rw [hv]
  replace X := X.to hb
  clear hb hr
  have hr := X.r3
  go_wp2_with fail
  refine (rfwithin_any T.ps A2 k2 y _ (HT.out.below X.1).2.1 (of_vT hv).p1).mono ?_
  rintro e wz ⟨rfl, rfl⟩
  rw [hy]
  clear hr
  have hr := X.r3
  go_wp2_with fail
  refine (rfwithin_any T.ds A1 k1 x _ (HT.out.below X.1).1 (of_vT hv).d1).mono ?_
  rintro e wz ⟨rfl, rfl⟩
  rw [hx]
  clear hr
  have hr := X.r3
  go_wp2
  go_ret
  exact ⟨rfl, X.1⟩
set_option maxHeartbeats 4000000 in
theorem finds_oi (T : Tab) (a : TabA) (v x y : Int) (w : World) (ht : TabSl w T a) (t1 : bigT T = false) (hv : vT T = true) (hy : inL T.ps y = false) (hx : inL T.ds x = true) :
    Calls Try.prog 5 #[T.val a, .int .i64 x, .int .i64 y, .int .i64 v] w fun e w' => e = .returned (.bool true) ∧ Below w.heap.size w w' := by
  obtain ⟨A1, A2, A3, k1, k2, k3⟩ := a
  have X := (Own.start w).alloc #[.slice A1 T.ds.length k1, .slice A2 T.ps.length k2, .slice A3 T.rows.length k3] 25
  have HT := hide ht
  clear ht
  go_enter Try.func5, Try.ntmps5
  have hr := X.r1
  go_wp2_with fail
  refine (awake_any _).mono ?_
  rintro e wz ⟨rfl, hb⟩
  replace X := X.to hb
  clear hb hr
  have hr := X.r1
  go_wp2_with fail
  refine (large_any T ⟨A1, A2, A3, k1, k2, k3⟩ _ (HT.out.below X.1)).mono ?_
  rintro e wz ⟨rfl, hb⟩
  rw [t1]
  replace X := X.to hb
  clear hb hr
  have hr := X.r1
  go_wp2_with fail
  refine (dur_res T ⟨A1, A2, A3, k1, k2, k3⟩ v y _ (HT.out.below X.1)).mono ?_
  rintro e wz ⟨hb, lo, hi, er, rfl, hf⟩
  rw [hv, hy] at hf
  obtain ⟨rfl, rfl, rfl⟩ := hf.no2
  clear hf
  replace X := (X.to hb).alloc #[.int .i64 0, .int .i64 0] 29
  clear hb hr
  have hr := X.r2
  go_wp2_with fail
  refine (per_res T ⟨A1, A2, A3, k1, k2, k3⟩ v x _ (HT.out.below X.1)).mono ?_
  rintro e wz ⟨hb, lo2, hi2, er2, rfl, hf⟩
  rw [hv, hx] at hf
  have F2 := hide hf
  clear hf
  replace X := (X.to hb).alloc #[.int .i64 lo2, .int .i64 hi2] 29
  clear hb hr
  have hr := X.r3
  go_wp2_with fail
  refine (rfvalid_any T ⟨A1, A2, A3, k1, k2, k3⟩ _ (HT.out.below X.1)).mono ?_
  rintro e wz ⟨rfl, hb⟩
  rw [hv]
  replace X := X.to hb
  clear hb hr
  have hr := X.r3
  go_wp2_with fail
  refine (rfwithin_any T.ps A2 k2 y _ (HT.out.below X.1).2.1 (of_vT hv).p1).mono ?_
  rintro e wz ⟨rfl, rfl⟩
  rw [hy]
  clear hr
  have hr := X.r3
  go_wp2_with fail
  refine (rfwithin_any T.ds A1 k1 x _ (HT.out.below X.1).1 (of_vT hv).d1).mono ?_
  rintro e wz ⟨rfl, rfl⟩
  rw [hx]
  clear hr
  have hr := X.r3
  go_wp2_with fail
  refine (rfper_res T ⟨A1, A2, A3, k1, k2, k3⟩ v x _ (HT.out.below X.1) hv hx).mono ?_
  rintro e wz ⟨hb, lo', hi', er', rfl, hf⟩
  obtain ⟨rfl, rfl, rfl⟩ := FRes.unique ((of_vT hv).lineY hx) F2.out hf
  replace X := (X.to hb).alloc #[.int .i64 lo2, .int .i64 hi2] 29
  clear hb hr hf F2
  have hr := X.r4
  go_wp2
  go_ret
  exact ⟨rfl, X.1⟩
set_option maxHeartbeats 4000000 in
theorem finds_io (T : Tab) (a : TabA) (v x y : Int) (w : World) (ht : TabSl w T a) (t1 : bigT T = false) (hv : vT T = true) (hy : inL T.ps y = true) (hx : inL T.ds x = false) :
    Calls Try.prog 5 #[T.val a, .int .i64 x, .int .i64 y, .int .i64 v] w fun e w' => e = .returned (.bool true) ∧ Below w.heap.size w w' := by
  obtain ⟨A1, A2, A3, k1, k2, k3⟩ := a
  have X := (Own.start w).alloc #[.slice A1 T.ds.length k1, .slice A2 T.ps.length k2, .slice A3 T.rows.length k3] 25
  have HT := hide ht
  clear ht
  go_enter Try.func5, Try.ntmps5
  have hr := X.r1
  go_wp2_with fail
  refine (awake_any _).mono ?_
  rintro e wz ⟨rfl, hb⟩
  replace X := X.to hb
  clear hb hr
  have hr := X.r1
  go_wp2_with fail
  refine (large_any T ⟨A1, A2, A3, k1, k2, k3⟩ _ (HT.out.below X.1)).mono ?_
  rintro e wz ⟨rfl, hb⟩
  rw [t1]
  replace X := X.to hb
  clear hb hr
  have hr := X.r1
  go_wp2_with fail
  refine (dur_res T ⟨A1, A2, A3, k1, k2, k3⟩ v y _ (HT.out.below X.1)).mono ?_
  rintro e wz ⟨hb, lo, hi, er, rfl, hf⟩
  rw [hv, hy] at hf
  have F1 := hide hf
  clear hf
  replace X := (X.to hb).alloc #[.int .i64 lo, .int .i64 hi] 29
  clear hb hr
  have hr := X.r2
  go_wp2_with fail
  refine (per_res T ⟨A1, A2, A3, k1, k2, k3⟩ v x _ (HT.out.below X.1)).mono ?_
  rintro e wz ⟨hb, lo2, hi2, er2, rfl, hf⟩
  rw [hv, hx] at hf
  obtain ⟨rfl, rfl, rfl⟩ := hf.no2
  clear hf
  replace X := (X.to hb).alloc #[.int .i64 0, .int .i64 0] 29
  clear hb hr
  have hr := X.r3
  go_wp2_with fail
  refine (rfvalid_any T ⟨A1, A2, A3, k1, k2, k3⟩ _ (HT.out.below X.1)).mono ?_
  rintro e wz ⟨rfl, hb⟩
  rw [hv]
  replace X := X.to hb
  clear hb hr
  have hr := X.r3
  go_wp2_with fail
  refine (rfwithin_any T.ps A2 k2 y _ (HT.out.below X.1).2.1 (of_vT hv).p1).mono ?_
  rintro e wz ⟨rfl, rfl⟩
  rw [hy]
  clear hr
  have hr := X.r3
  go_wp2_with fail
  refine (rfdur_res T ⟨A1, A2, A3, k1, k2, k3⟩ v y _ (HT.out.below X.1) hv hy).mono ?_
  rintro e wz ⟨hb, lo', hi', er', rfl, hf⟩
  obtain ⟨rfl, rfl, rfl⟩ := FRes.unique ((of_vT hv).lineX hy) F1.out hf
  replace X := (X.to hb).alloc #[.int .i64 lo, .int .i64 hi] 29
  clear hb hr hf F1
  have hr := X.r4
  go_wp2_with fail
  refine (rfwithin_any T.ds A1 k1 x _ (HT.out.below X.1).1 (of_vT hv).d1).mono ?_
  rintro e wz ⟨rfl, rfl⟩
  rw [hx]
  clear hr
  have hr := X.r4
  go_wp2
  go_ret
  exact ⟨rfl, X.1⟩
set_option maxHeartbeats 4000000 in
theorem finds_ii (T : Tab) (a : TabA) (v x y : Int) (w : World) (ht : TabSl w T a) (t1 : bigT T = false) (hv : vT T = true) (hy : inL T.ps y = true) (hx : inL T.ds x = true) :
    Calls Try.prog 5 #[T.val a, .int .i64 x, .int .i64 y, .int .i64 v] w fun e w' => e = .returned (.bool true) ∧ Below w.heap.size w w' := by
  obtain ⟨A1, A2, A3, k1, k2, k3⟩ := a
  have X := (Own.start w).alloc #[.slice A1 T.ds.length k1, .slice A2 T.ps.length k2, .slice A3 T.rows.length k3] 25
  have HT := hide ht
  clear ht
  go_enter Try.func5, Try.ntmps5
  have hr := X.r1
  go_wp2_with fail
  refine (awake_any _).mono ?_
  rintro e wz ⟨rfl, hb⟩
  replace X := X.to hb
  clear hb hr
  have hr := X.r1
  go_wp2_with fail
  refine (large_any T ⟨A1, A2, A3, k1, k2, k3⟩ _ (HT.out.below X.1)).mono ?_
  rintro e wz ⟨rfl, hb⟩
  rw [t1]
  replace X := X.to hb
  clear hb hr
  have hr := X.r1
  go_wp2_with fail
  refine (dur_res T ⟨A1, A2, A3, k1, k2, k3⟩ v y _ (HT.out.below X.1)).mono ?_
  rintro e wz ⟨hb, lo, hi, er, rfl, hf⟩
  rw [hv, hy] at hf
  have F1 := hide hf
  clear hf
  replace X := (X.to hb).alloc #[.int .i64 lo, .int .i64 hi] 29
  clear hb hr
  have hr := X.r2
  go_wp2_with fail
  refine (per_res T ⟨A1, A2, A3, k1, k2, k3⟩ v x _ (HT.out.below X.1)).mono ?_
  rintro e wz ⟨hb, lo2, hi2, er2, rfl, hf⟩
  rw [hv, hx] at hf
  have F2 := hide hf
  clear hf
  replace X := (X.to hb).alloc #[.int .i64 lo2, .int .i64 hi2] 29
  clear hb hr
  have hr := X.r3
  go_wp2_with fail
  refine (rfvalid_any T ⟨A1, A2, A3, k1, k2, k3⟩ _ (HT.out.below X.1)).mono ?_
  rintro e wz ⟨rfl, hb⟩
  rw [hv]
  replace X := X.to hb
  clear hb hr
  have hr := X.r3
  go_wp2_with fail
  refine (rfwithin_any T.ps A2 k2 y _ (HT.out.below X.1).2.1 (of_vT hv).p1).mono ?_
  rintro e wz ⟨rfl, rfl⟩
  rw [hy]
  clear hr
  have hr := X.r3
  go_wp2_with fail
  refine (rfdur_res T ⟨A1, A2, A3, k1, k2, k3⟩ v y _ (HT.out.below X.1) hv hy).mono ?_
  rintro e wz ⟨hb, lo', hi', er', rfl, hf⟩
  obtain ⟨rfl, rfl, rfl⟩ := FRes.unique ((of_vT hv).lineX hy) F1.out hf
  replace X := (X.to hb).alloc #[.int .i64 lo, .int .i64 hi] 29
  clear hb hr hf F1
  have hr := X.r4
  go_wp2_with fail
  refine (rfwithin_any T.ds A1 k1 x _ (HT.out.below X.1).1 (of_vT hv).d1).mono ?_
  rintro e wz ⟨rfl, rfl⟩
  rw [hx]
  clear hr
  have hr := X.r4
  go_wp2_with fail
  refine (rfper_res T ⟨A1, A2, A3, k1, k2, k3⟩ v x _ (HT.out.below X.1) hv hx).mono ?_
  rintro e wz ⟨hb, lo', hi', er', rfl, hf⟩
  obtain ⟨rfl, rfl, rfl⟩ := FRes.unique ((of_vT hv).lineY hx) F2.out hf
  replace X := (X.to hb).alloc #[.int .i64 lo2, .int .i64 hi2] 29
  clear hb hr hf F2
  have hr := X.r5
  go_wp2
  go_ret
  exact ⟨rfl, X.1⟩
theorem finds_law (T : Tab) (a : TabA) (v x y : Int) (w : World) (ht : TabSl w T a) :
    Calls Try.prog 5 #[T.val a, .int .i64 x, .int .i64 y, .int .i64 v] w fun e w' => e = .returned (.bool true) ∧ Below w.heap.size w w' := by
  rcases Bool.eq_false_or_eq_true (bigT T) with t1 | t1
  · exact finds_big T a v x y w ht t1
  rcases Bool.eq_false_or_eq_true (vT T) with hv | hv
  rotate_left
  · exact finds_bad T a v x y w ht t1 hv
  rcases Bool.eq_false_or_eq_true (inL T.ps y) with hy | hy <;> rcases Bool.eq_false_or_eq_true (inL T.ds x) with hx | hx
  · exact finds_ii T a v x y w ht t1 hv hy hx
  · exact finds_io T a v x y w ht t1 hv hy hx
  · exact finds_oi T a v x y w ht t1 hv hy hx
  · exact finds_oo T a v x y w ht t1 hv hy hx
end Go.Proofs.Ytjnifgheipmanaa
