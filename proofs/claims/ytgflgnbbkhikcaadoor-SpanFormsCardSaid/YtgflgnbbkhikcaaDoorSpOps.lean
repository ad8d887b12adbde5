/- The program's Add, Sub, Neg, Hull, Meet, and the reference's: what each returns, for all spans; nothing that was there is turned. -/
import Derived.Test.YtgflgnbbkhikcaaDoorSpFn
namespace Go.Proofs.YtgflgnbbkhikcaaDoor
open Go.RowKit


set_option maxHeartbeats 1000000 in
theorem add_any (a b : Sp) (w : World) : Calls Tryd.prog 22 #[a.val, b.val] w (RetSE (op2S a b (resS (a.lo + b.lo) (a.hi + b.hi))) (op2E a b (resE (a.lo + b.lo) (a.hi + b.hi))) w) := by
  have X := (((Own.start w).alloc #[.int .i64 a.lo, .int .i64 a.hi] 23).alloc #[.int .i64 b.lo, .int .i64 b.hi] 23).alloc #[.int .i64 0, .int .i64 0] 23
  simp only [World.size_alloc] at X
  rcases Bool.eq_false_or_eq_true (vB a) with ha | ha
  rotate_left
  · have H := hide (op2_no1 (b := b) ha (resE (a.lo + b.lo) (a.hi + b.hi)) (resS (a.lo + b.lo) (a.hi + b.hi)))
    go_enter Tryd.func22, Tryd.ntmps22
    go_wp2_with fail
    refine (valid_any a _).mono ?_
    rintro e w1 ⟨rfl, hb⟩
    replace X := X.to hb
    clear hb
    have hr := X.r3
    rw [ha]
    go_wp2
    exact bodyPost_ret (v := .tuple #[Sp.zero.val, .int .i64 1]) (by simp [results, Tryd.results22, hr, Sp.zero, go_sem]) rfl (RetSE.mk (by have HX := X.1; have hz := HX.size; go_grown) H.out.2 H.out.1)
  rcases Bool.eq_false_or_eq_true (vB b) with hb' | hb'
  rotate_left
  · have H := hide (op2_no2 (a := a) hb' (resE (a.lo + b.lo) (a.hi + b.hi)) (resS (a.lo + b.lo) (a.hi + b.hi)))
    go_enter Tryd.func22, Tryd.ntmps22
    go_wp2_with fail
    refine (valid_any a _).mono ?_
    rintro e w1 ⟨rfl, hb⟩
    replace X := X.to hb
    clear hb
    have hr := X.r3
    rw [ha]
    go_wp2_with fail
    refine (valid_any b _).mono ?_
    rintro e w1 ⟨rfl, hb⟩
    replace X := X.to hb
    clear hb hr
    have hr := X.r3
    rw [hb']
    go_wp2
    exact bodyPost_ret (v := .tuple #[Sp.zero.val, .int .i64 1]) (by simp [results, Tryd.results22, hr, Sp.zero, go_sem]) rfl (RetSE.mk (by have HX := X.1; have hz := HX.size; go_grown) H.out.2 H.out.1)
  obtain ⟨h1, h2, h3⟩ := vB_iff.1 ha
  obtain ⟨k1, k2, k3⟩ := vB_iff.1 hb'
  have H := hide (op2_yes ha hb' (resE (a.lo + b.lo) (a.hi + b.hi)) (resS (a.lo + b.lo) (a.hi + b.hi)))
  go_enter Tryd.func22, Tryd.ntmps22
  go_wp2_with fail
  refine (valid_any a _).mono ?_
  rintro e w1 ⟨rfl, hb⟩
  replace X := X.to hb
  clear hb
  have hr := X.r3
  rw [ha]
  go_wp2_with fail
  refine (valid_any b _).mono ?_
  rintro e w1 ⟨rfl, hb⟩
  replace X := X.to hb
  clear hb hr
  have hr := X.r3
  rw [hb']
  clear ha hb'
  go_wp2_with fail
  refine (result_any _ _ _).mono ?_
  rintro e w1 ⟨rfl, hb⟩
  replace X := X.to hb
  clear hb hr
  have hr := X.r3
  go_wp2
  exact bodyPost_ret (v := .tuple #[(resS (a.lo + b.lo) (a.hi + b.hi)).val, .int .i64 (resE (a.lo + b.lo) (a.hi + b.hi))]) (by simp [results, Tryd.results22, hr, go_sem]) rfl (RetSE.mk (by have HX := X.1; have hz := HX.size; go_grown) H.out.2 H.out.1)

set_option maxHeartbeats 1000000 in
theorem sub_any (a b : Sp) (w : World) : Calls Tryd.prog 23 #[a.val, b.val] w (RetSE (op2S a b (resS (a.lo - b.hi) (a.hi - b.lo))) (op2E a b (resE (a.lo - b.hi) (a.hi - b.lo))) w) := by
  have X := (((Own.start w).alloc #[.int .i64 a.lo, .int .i64 a.hi] 23).alloc #[.int .i64 b.lo, .int .i64 b.hi] 23).alloc #[.int .i64 0, .int .i64 0] 23
  simp only [World.size_alloc] at X
  rcases Bool.eq_false_or_eq_true (vB a) with ha | ha
  rotate_left
  · have H := hide (op2_no1 (b := b) ha (resE (a.lo - b.hi) (a.hi - b.lo)) (resS (a.lo - b.hi) (a.hi - b.lo)))
    go_enter Tryd.func23, Tryd.ntmps23
    go_wp2_with fail
    refine (valid_any a _).mono ?_
    rintro e w1 ⟨rfl, hb⟩
    replace X := X.to hb
    clear hb
    have hr := X.r3
    rw [ha]
    go_wp2
    exact bodyPost_ret (v := .tuple #[Sp.zero.val, .int .i64 1]) (by simp [results, Tryd.results23, hr, Sp.zero, go_sem]) rfl (RetSE.mk (by have HX := X.1; have hz := HX.size; go_grown) H.out.2 H.out.1)
  rcases Bool.eq_false_or_eq_true (vB b) with hb' | hb'
  rotate_left
  · have H := hide (op2_no2 (a := a) hb' (resE (a.lo - b.hi) (a.hi - b.lo)) (resS (a.lo - b.hi) (a.hi - b.lo)))
    go_enter Tryd.func23, Tryd.ntmps23
    go_wp2_with fail
    refine (valid_any a _).mono ?_
    rintro e w1 ⟨rfl, hb⟩
    replace X := X.to hb
    clear hb
    have hr := X.r3
    rw [ha]
    go_wp2_with fail
    refine (valid_any b _).mono ?_
    rintro e w1 ⟨rfl, hb⟩
    replace X := X.to hb
    clear hb hr
    have hr := X.r3
    rw [hb']
    go_wp2
    exact bodyPost_ret (v := .tuple #[Sp.zero.val, .int .i64 1]) (by simp [results, Tryd.results23, hr, Sp.zero, go_sem]) rfl (RetSE.mk (by have HX := X.1; have hz := HX.size; go_grown) H.out.2 H.out.1)
  obtain ⟨h1, h2, h3⟩ := vB_iff.1 ha
  obtain ⟨k1, k2, k3⟩ := vB_iff.1 hb'
  have H := hide (op2_yes ha hb' (resE (a.lo - b.hi) (a.hi - b.lo)) (resS (a.lo - b.hi) (a.hi - b.lo)))
  go_enter Tryd.func23, Tryd.ntmps23
  go_wp2_with fail
  refine (valid_any a _).mono ?_
  rintro e w1 ⟨rfl, hb⟩
  replace X := X.to hb
  clear hb
  have hr := X.r3
  rw [ha]
  go_wp2_with fail
  refine (valid_any b _).mono ?_
  rintro e w1 ⟨rfl, hb⟩
  replace X := X.to hb
  clear hb hr
  have hr := X.r3
  rw [hb']
  clear ha hb'
  go_wp2_with fail
  refine (result_any _ _ _).mono ?_
  rintro e w1 ⟨rfl, hb⟩
  replace X := X.to hb
  clear hb hr
  have hr := X.r3
  go_wp2
  exact bodyPost_ret (v := .tuple #[(resS (a.lo - b.hi) (a.hi - b.lo)).val, .int .i64 (resE (a.lo - b.hi) (a.hi - b.lo))]) (by simp [results, Tryd.results23, hr, go_sem]) rfl (RetSE.mk (by have HX := X.1; have hz := HX.size; go_grown) H.out.2 H.out.1)

set_option maxHeartbeats 1000000 in
theorem hull_any (a b : Sp) (w : World) : Calls Tryd.prog 26 #[a.val, b.val] w (RetSE (op2S a b (hullS a b)) (op2E a b 0) w) := by
  have X := (((Own.start w).alloc #[.int .i64 a.lo, .int .i64 a.hi] 23).alloc #[.int .i64 b.lo, .int .i64 b.hi] 23).alloc #[.int .i64 0, .int .i64 0] 23
  simp only [World.size_alloc] at X
  rcases Bool.eq_false_or_eq_true (vB a) with ha | ha
  rotate_left
  · have H := hide (op2_no1 (b := b) ha 0 (hullS a b))
    go_enter Tryd.func26, Tryd.ntmps26
    go_wp2_with fail
    refine (valid_any a _).mono ?_
    rintro e w1 ⟨rfl, hb⟩
    replace X := X.to hb
    clear hb
    have hr := X.r3
    rw [ha]
    go_wp2
    exact bodyPost_ret (v := .tuple #[Sp.zero.val, .int .i64 1]) (by simp [results, Tryd.results26, hr, Sp.zero, go_sem]) rfl (RetSE.mk (by have HX := X.1; have hz := HX.size; go_grown) H.out.2 H.out.1)
  rcases Bool.eq_false_or_eq_true (vB b) with hb' | hb'
  rotate_left
  · have H := hide (op2_no2 (a := a) hb' 0 (hullS a b))
    go_enter Tryd.func26, Tryd.ntmps26
    go_wp2_with fail
    refine (valid_any a _).mono ?_
    rintro e w1 ⟨rfl, hb⟩
    replace X := X.to hb
    clear hb
    have hr := X.r3
    rw [ha]
    go_wp2_with fail
    refine (valid_any b _).mono ?_
    rintro e w1 ⟨rfl, hb⟩
    replace X := X.to hb
    clear hb hr
    have hr := X.r3
    rw [hb']
    go_wp2
    exact bodyPost_ret (v := .tuple #[Sp.zero.val, .int .i64 1]) (by simp [results, Tryd.results26, hr, Sp.zero, go_sem]) rfl (RetSE.mk (by have HX := X.1; have hz := HX.size; go_grown) H.out.2 H.out.1)
  obtain ⟨h1, h2, h3⟩ := vB_iff.1 ha
  obtain ⟨k1, k2, k3⟩ := vB_iff.1 hb'
  have H := hide (op2_yes ha hb' 0 (hullS a b))
  go_enter Tryd.func26, Tryd.ntmps26
  go_wp2_with fail
  refine (valid_any a _).mono ?_
  rintro e w1 ⟨rfl, hb⟩
  replace X := X.to hb
  clear hb
  have hr := X.r3
  rw [ha]
  go_wp2_with fail
  refine (valid_any b _).mono ?_
  rintro e w1 ⟨rfl, hb⟩
  replace X := X.to hb
  clear hb hr
  have hr := X.r3
  rw [hb']
  clear ha hb'
  rcases Int.lt_or_le b.lo a.lo with m1 | m1 <;> rcases Int.lt_or_le a.hi b.hi with m2 | m2
  · have V : Hid (hullS a b = ⟨b.lo, b.hi⟩) := hide (by simp only [hullS]; congr 1 <;> split <;> omega)
    go_wp2
    exact bodyPost_ret (v := .tuple #[.agg #[.int .i64 b.lo, .int .i64 b.hi], .int .i64 0]) (by simp [results, Tryd.results26, hr, go_sem]) rfl (RetSE.mk (s' := ⟨b.lo, b.hi⟩) (by have HX := X.1; have hz := HX.size; go_grown) (by rw [H.out.2, V.out]) H.out.1)
  · have V : Hid (hullS a b = ⟨b.lo, a.hi⟩) := hide (by simp only [hullS]; congr 1 <;> split <;> omega)
    go_wp2
    exact bodyPost_ret (v := .tuple #[.agg #[.int .i64 b.lo, .int .i64 a.hi], .int .i64 0]) (by simp [results, Tryd.results26, hr, go_sem]) rfl (RetSE.mk (s' := ⟨b.lo, a.hi⟩) (by have HX := X.1; have hz := HX.size; go_grown) (by rw [H.out.2, V.out]) H.out.1)
  · have V : Hid (hullS a b = ⟨a.lo, b.hi⟩) := hide (by simp only [hullS]; congr 1 <;> split <;> omega)
    go_wp2
    exact bodyPost_ret (v := .tuple #[.agg #[.int .i64 a.lo, .int .i64 b.hi], .int .i64 0]) (by simp [results, Tryd.results26, hr, go_sem]) rfl (RetSE.mk (s' := ⟨a.lo, b.hi⟩) (by have HX := X.1; have hz := HX.size; go_grown) (by rw [H.out.2, V.out]) H.out.1)
  · have V : Hid (hullS a b = ⟨a.lo, a.hi⟩) := hide (by simp only [hullS]; congr 1 <;> split <;> omega)
    go_wp2
    exact bodyPost_ret (v := .tuple #[.agg #[.int .i64 a.lo, .int .i64 a.hi], .int .i64 0]) (by simp [results, Tryd.results26, hr, go_sem]) rfl (RetSE.mk (s' := ⟨a.lo, a.hi⟩) (by have HX := X.1; have hz := HX.size; go_grown) (by rw [H.out.2, V.out]) H.out.1)

set_option maxHeartbeats 1000000 in
theorem meet_any (a b : Sp) (w : World) : Calls Tryd.prog 27 #[a.val, b.val] w (RetSE (op2S a b (meetS a b)) (op2E a b (meetE a b)) w) := by
  have X := (((Own.start w).alloc #[.int .i64 a.lo, .int .i64 a.hi] 23).alloc #[.int .i64 b.lo, .int .i64 b.hi] 23).alloc #[.int .i64 0, .int .i64 0] 23
  simp only [World.size_alloc] at X
  rcases Bool.eq_false_or_eq_true (vB a) with ha | ha
  rotate_left
  · have H := hide (op2_no1 (b := b) ha (meetE a b) (meetS a b))
    go_enter Tryd.func27, Tryd.ntmps27
    go_wp2_with fail
    refine (valid_any a _).mono ?_
    rintro e w1 ⟨rfl, hb⟩
    replace X := X.to hb
    clear hb
    have hr := X.r3
    rw [ha]
    go_wp2
    exact bodyPost_ret (v := .tuple #[Sp.zero.val, .int .i64 1]) (by simp [results, Tryd.results27, hr, Sp.zero, go_sem]) rfl (RetSE.mk (by have HX := X.1; have hz := HX.size; go_grown) H.out.2 H.out.1)
  rcases Bool.eq_false_or_eq_true (vB b) with hb' | hb'
  rotate_left
  · have H := hide (op2_no2 (a := a) hb' (meetE a b) (meetS a b))
    go_enter Tryd.func27, Tryd.ntmps27
    go_wp2_with fail
    refine (valid_any a _).mono ?_
    rintro e w1 ⟨rfl, hb⟩
    replace X := X.to hb
    clear hb
    have hr := X.r3
    rw [ha]
    go_wp2_with fail
    refine (valid_any b _).mono ?_
    rintro e w1 ⟨rfl, hb⟩
    replace X := X.to hb
    clear hb hr
    have hr := X.r3
    rw [hb']
    go_wp2
    exact bodyPost_ret (v := .tuple #[Sp.zero.val, .int .i64 1]) (by simp [results, Tryd.results27, hr, Sp.zero, go_sem]) rfl (RetSE.mk (by have HX := X.1; have hz := HX.size; go_grown) H.out.2 H.out.1)
  obtain ⟨h1, h2, h3⟩ := vB_iff.1 ha
  obtain ⟨k1, k2, k3⟩ := vB_iff.1 hb'
  have H := hide (op2_yes ha hb' (meetE a b) (meetS a b))
  go_enter Tryd.func27, Tryd.ntmps27
  go_wp2_with fail
  refine (valid_any a _).mono ?_
  rintro e w1 ⟨rfl, hb⟩
  replace X := X.to hb
  clear hb
  have hr := X.r3
  rw [ha]
  go_wp2_with fail
  refine (valid_any b _).mono ?_
  rintro e w1 ⟨rfl, hb⟩
  replace X := X.to hb
  clear hb hr
  have hr := X.r3
  rw [hb']
  clear ha hb'
  rcases Int.lt_or_le a.lo b.lo with m1 | m1 <;> rcases Int.lt_or_le b.hi a.hi with m2 | m2
  · have V : Hid (meetV a b = ⟨b.lo, b.hi⟩) := hide (by simp only [meetV]; congr 1 <;> split <;> omega)
    rcases Int.lt_or_le b.hi b.lo with m3 | m3
    · exfalso; omega
    · have M : Hid (meetE a b = 0 ∧ meetS a b = ⟨b.lo, b.hi⟩) := hide (by simp only [meetE, meetS, V.out, if_pos m3]; exact ⟨trivial, trivial⟩)
      go_wp2
      exact bodyPost_ret (v := .tuple #[.agg #[.int .i64 b.lo, .int .i64 b.hi], .int .i64 0]) (by simp [results, Tryd.results27, hr, go_sem]) rfl (RetSE.mk (s' := ⟨b.lo, b.hi⟩) (by have HX := X.1; have hz := HX.size; go_grown) (by rw [H.out.2, M.out.2]) (by rw [H.out.1, M.out.1]))
  · have V : Hid (meetV a b = ⟨b.lo, a.hi⟩) := hide (by simp only [meetV]; congr 1 <;> split <;> omega)
    rcases Int.lt_or_le a.hi b.lo with m3 | m3
    · skip
      have M : Hid (meetE a b = 21 ∧ meetS a b = Sp.zero) := hide (by simp only [meetE, meetS, V.out, if_neg (show ¬ b.lo ≤ a.hi by omega)]; exact ⟨trivial, trivial⟩)
      go_wp2
      exact bodyPost_ret (v := .tuple #[Sp.zero.val, .int .i64 21]) (by simp [results, Tryd.results27, hr, Sp.zero, go_sem]) rfl (RetSE.mk (by have HX := X.1; have hz := HX.size; go_grown) (by rw [H.out.2, M.out.2]) (by rw [H.out.1, M.out.1]))
    · have M : Hid (meetE a b = 0 ∧ meetS a b = ⟨b.lo, a.hi⟩) := hide (by simp only [meetE, meetS, V.out, if_pos m3]; exact ⟨trivial, trivial⟩)
      go_wp2
      exact bodyPost_ret (v := .tuple #[.agg #[.int .i64 b.lo, .int .i64 a.hi], .int .i64 0]) (by simp [results, Tryd.results27, hr, go_sem]) rfl (RetSE.mk (s' := ⟨b.lo, a.hi⟩) (by have HX := X.1; have hz := HX.size; go_grown) (by rw [H.out.2, M.out.2]) (by rw [H.out.1, M.out.1]))
  · have V : Hid (meetV a b = ⟨a.lo, b.hi⟩) := hide (by simp only [meetV]; congr 1 <;> split <;> omega)
    rcases Int.lt_or_le b.hi a.lo with m3 | m3
    · skip
      have M : Hid (meetE a b = 21 ∧ meetS a b = Sp.zero) := hide (by simp only [meetE, meetS, V.out, if_neg (show ¬ a.lo ≤ b.hi by omega)]; exact ⟨trivial, trivial⟩)
      go_wp2
      exact bodyPost_ret (v := .tuple #[Sp.zero.val, .int .i64 21]) (by simp [results, Tryd.results27, hr, Sp.zero, go_sem]) rfl (RetSE.mk (by have HX := X.1; have hz := HX.size; go_grown) (by rw [H.out.2, M.out.2]) (by rw [H.out.1, M.out.1]))
    · have M : Hid (meetE a b = 0 ∧ meetS a b = ⟨a.lo, b.hi⟩) := hide (by simp only [meetE, meetS, V.out, if_pos m3]; exact ⟨trivial, trivial⟩)
      go_wp2
      exact bodyPost_ret (v := .tuple #[.agg #[.int .i64 a.lo, .int .i64 b.hi], .int .i64 0]) (by simp [results, Tryd.results27, hr, go_sem]) rfl (RetSE.mk (s' := ⟨a.lo, b.hi⟩) (by have HX := X.1; have hz := HX.size; go_grown) (by rw [H.out.2, M.out.2]) (by rw [H.out.1, M.out.1]))
  · have V : Hid (meetV a b = ⟨a.lo, a.hi⟩) := hide (by simp only [meetV]; congr 1 <;> split <;> omega)
    rcases Int.lt_or_le a.hi a.lo with m3 | m3
    · exfalso; omega
    · have M : Hid (meetE a b = 0 ∧ meetS a b = ⟨a.lo, a.hi⟩) := hide (by simp only [meetE, meetS, V.out, if_pos m3]; exact ⟨trivial, trivial⟩)
      go_wp2
      exact bodyPost_ret (v := .tuple #[.agg #[.int .i64 a.lo, .int .i64 a.hi], .int .i64 0]) (by simp [results, Tryd.results27, hr, go_sem]) rfl (RetSE.mk (s' := ⟨a.lo, a.hi⟩) (by have HX := X.1; have hz := HX.size; go_grown) (by rw [H.out.2, M.out.2]) (by rw [H.out.1, M.out.1]))

set_option maxHeartbeats 1000000 in
theorem neg_any (a : Sp) (w : World) : Calls Tryd.prog 30 #[a.val] w (RetSE (negS a) (negE a) w) := by
  have X := ((Own.start w).alloc #[.int .i64 a.lo, .int .i64 a.hi] 23).alloc #[.int .i64 0, .int .i64 0] 23
  simp only [World.size_alloc] at X
  rcases Bool.eq_false_or_eq_true (vB a) with ha | ha
  · obtain ⟨h1, h2, h3⟩ := vB_iff.1 ha
    have H := hide (neg_yes ha)
    go_enter Tryd.func30, Tryd.ntmps30
    go_wp2_with fail
    refine (valid_any a _).mono ?_
    rintro e w1 ⟨rfl, hb⟩
    replace X := X.to hb
    clear hb
    have hr := X.r2
    rw [ha]
    clear ha
    go_wp2
    exact bodyPost_ret (v := .tuple #[.agg #[.int .i64 (-a.hi), .int .i64 (-a.lo)], .int .i64 0]) (by simp [results, Tryd.results30, hr, go_sem]) rfl (RetSE.mk (s' := ⟨-a.hi, -a.lo⟩) (by have HX := X.1; have hz := HX.size; go_grown) H.out.2 H.out.1)
  · have H := hide (neg_no ha)
    go_enter Tryd.func30, Tryd.ntmps30
    go_wp2_with fail
    refine (valid_any a _).mono ?_
    rintro e w1 ⟨rfl, hb⟩
    replace X := X.to hb
    clear hb
    have hr := X.r2
    rw [ha]
    clear ha
    go_wp2
    exact bodyPost_ret (v := .tuple #[Sp.zero.val, .int .i64 1]) (by simp [results, Tryd.results30, hr, Sp.zero, go_sem]) rfl (RetSE.mk (by have HX := X.1; have hz := HX.size; go_grown) H.out.2 H.out.1)


end Go.Proofs.YtgflgnbbkhikcaaDoor
